/-
  The forms of the functions, and their walks: written by a program of this claim (gen.py) off the elaborated translation.
-/
import Derived.Test.YtifhloambieoiaaProg
import Derived.Test.YtifhloambieoiaaBase
import Derived.KernelRfl
namespace Go.Proofs.Ytifhloambieoiaa
open Go Go.Sh Go.Proofs
set_option linter.unusedVariables false
theorem Try.mixed : Try.prog.follows .mixedOrders = true := by kernel_rfl
def F3_b2 (l_n2 : Nat) (l_a1 : Option Addr) (w6 : Option Addr) (p16 : Addr) (i22 : Int) (w23 : World) (k : Value → World → Prop) (nx23 : Int → World → Prop) : Prop :=
  if i22 < (l_n2 : Int) then
  ∃ (p28 : Addr), l_a1 = some p28 ∧ (0 : Int) ≤ i22 ∧ i22 < (l_n2 : Int) ∧ ∃ (x30 : Int), w23.drew.cell? (p28.add (i22.toNat * 2)) = some (.int .u64 x30) ∧ (0 : Int) ≤ i22 ∧ i22 < (l_n2 : Int) ∧ ∃ (x34 : Int), w23.drew.cell? ((p28.add (i22.toNat * 2)).add 1) = some (.int .i64 x34) ∧ Does Try.prog 11 #[.pointer w6, .int .u64 x30, .int .i64 x34] w23.drew (fun v w36 => ∃ (x37 : Option Addr), v = .pointer x37 ∧ ∃ (p38 : Addr), x37 = some p38 ∧ ∃ (p40 : Addr), w6 = some p40 ∧ p38.block = p40.block ∧ if (!(p38 == p40)) = true then
    k (.bool false) w36
  else
    (0 : Int) ≤ i22 ∧ i22 < (l_n2 : Int) ∧ ∃ (x46 : Int), w36.drew.cell? (p28.add (i22.toNat * 2)) = some (.int .u64 x46) ∧ (0 : Int) ≤ i22 ∧ i22 < (l_n2 : Int) ∧ ∃ (x50 : Int), w36.drew.cell? ((p28.add (i22.toNat * 2)).add 1) = some (.int .i64 x50) ∧ Does Try.prog 12 #[.pointer (some p16), .int .u64 x46, .int .i64 x50] w36.drew (fun v w52 => v = .tuple #[] ∧ ∃ (x_a53 : Option Addr) (x_n54 x_c55 : Nat), w52.drew.cell? p16 = some (.slice x_a53 x_n54 x_c55) ∧ Does Try.prog 13 #[.pointer w6] w52.drew (fun v w57 => ∃ (x58 : Int), v = .int .i64 x58 ∧ w57.cell? p16 = some (.slice x_a53 x_n54 x_c55) ∧ if x58 ≠ (x_n54 : Int) then
      k (.bool false) w57
    else
      Does Try.prog 15 #[.pointer w6] w57 (fun v w61 => ∃ (x_a62 : Option Addr) (x_n63 x_c64 : Nat), v = .slice x_a62 x_n63 x_c64 ∧ Does Try.prog 16 #[.pointer (some p16)] w61 (fun v w65 => ∃ (x_a66 : Option Addr) (x_n67 x_c68 : Nat), v = .slice x_a66 x_n67 x_c68 ∧ Does Try.prog 14 #[.slice x_a62 x_n63 x_c64, .slice x_a66 x_n67 x_c68] w65 (fun v w69 => ∃ (x70 : Bool), v = .bool x70 ∧ if (!x70) = true then
        k (.bool false) w69
      else
        nx23 (IntKind.i64.wrap (i22 + 1)) w69))))))
else
  Does Try.prog 10 #[] w23 (fun v w72 => ∃ (t73 : Bool), v = .bool t73 ∧ k (.bool t73) w72)
def F3_j1 (w6 : Option Addr) (l_n2 : Nat) (l_a1 : Option Addr) (t10 : Bool) (w11 : World) (k : Value → World → Prop) : Prop :=
  if t10 = true then
  if (!(w6).isNone) = true then
    Does Try.prog 10 #[] w11 (fun v w14 => ∃ (x15 : Bool), v = .bool x15 ∧ k (.bool x15) w14)
  else
    k (.bool false) w11
else
  New w11 29 [.slice none 0 0] (fun p16 w17 => LoopP (fun (s : Int) w' nx' => F3_b2 l_n2 l_a1 w6 p16 s w' k (fun x0 w => nx' x0 w)) 0 w17)
/-- spacecraft spacecraftlaw02.BitsPuts -/
def F3 (l_a1 : Option Addr) (l_n2 : Nat) (l_c3 : Nat) (w4 : World) (k : Value → World → Prop) : Prop :=
  Does Try.prog 8 #[] w4 (fun v w5 => ∃ (w6 : Option Addr), v = .pointer w6 ∧ Does Try.prog 9 #[.slice l_a1 l_n2 l_c3] w5 (fun v w74 => ∃ (x75 : Bool), v = .bool x75 ∧ if (!x75) = true then
  F3_j1 w6 l_n2 l_a1 true w74 k
else
  F3_j1 w6 l_n2 l_a1 ((w6).isNone) w74 k))
set_option maxRecDepth 100000 in
set_option maxHeartbeats 2000000 in
theorem w3 (l_a1 : Option Addr) (l_n2 : Nat) (l_c3 : Nat) (w4 : World) (k : Value → World → Prop) (h : F3 l_a1 l_n2 l_c3 w4 k) : Does Try.prog 3 #[.slice l_a1 l_n2 l_c3] w4 k := by
  refine enter 64 Try.func3 rfl rfl rfl ?_
  intro ρ hρ
  have e0 := hρ 0 _ rfl
  unfold F3 at h
  refine WC_seq ?_
  refine WC_region ?_
  refine WL_val gd0 ((o_assign (v := .bool false) rfl) _) rfl ?_
  refine WL_nil ?_
  refine nrm ?_
  refine WC_seq ?_
  refine WC_region ?_
  refine WL_call gd0 (o_call Try.call8 argNil _) rfl (h.mono ?_)
  rintro _ w5 ⟨w6, rfl, h⟩
  refine WL_val gd0 ((o_assign (v := .pointer w6) rfl) _) rfl ?_
  refine WL_nil ?_
  refine nrm ?_
  refine WC_seq ?_
  refine WC_cut (fun ρ w' => ∃ (t10 : Bool), ρ 13 = .bool t10 ∧ ρ 0 = .slice l_a1 l_n2 l_c3 ∧ ρ 3 = .pointer w6 ∧ F3_j1 w6 l_n2 l_a1 t10 w' k) ?_ ?_
  · refine WC_region ?_
    refine WL_val gd0 ((o_move (v := .slice l_a1 l_n2 l_c3) (by exact e0)) _) rfl ?_
    refine WL_call gd0 (o_call Try.call9 (argCons rfl argNil) _) rfl (h.mono ?_)
    rintro _ w74 ⟨x75, rfl, h⟩
    refine WL_val gd0 ((o_not rfl) _) rfl ?_
    refine WL_val gd0 ((o_move (v := .bool (!x75)) rfl) _) rfl ?_
    refine bsplit (!x75) (fun hb76 => ?_) (fun hb76 => ?_)
    · rw [if_pos hb76] at h
      refine WL_skip (gdN (b := (!x75)) 10 rfl rfl hb76) rfl ?_
      refine WL_skip (gdN (b := (!x75)) 10 rfl rfl hb76) rfl ?_
      refine WL_val gd0 ((o_pickT (v := .bool true) rfl hb76 rfl) _) rfl ?_
      refine WL_nil ?_
      refine nrm ?_
      exact ⟨_, rfl, e0, rfl, h⟩
    · rw [if_neg (neT hb76)] at h
      refine WL_val (gdY (b := (!x75)) 10 rfl rfl hb76) ((o_move (v := .pointer w6) rfl) _) rfl ?_
      refine WL_val (gdY (b := (!x75)) 10 rfl rfl hb76) ((o_eqlPtrNil Try.underlying23 rfl rfl) _) rfl ?_
      refine WL_val gd0 ((o_pickF (v := .bool ((w6).isNone)) rfl hb76 rfl) _) rfl ?_
      refine WL_nil ?_
      refine nrm ?_
      exact ⟨_, rfl, e0, rfl, h⟩
  · rintro ρ w11 ⟨t10, e13_9, e0_7, e3_8, h⟩
    unfold F3_j1 at h
    refine WC_cond (t := t10) (by exact e13_9) (fun hb12 => ?_) (fun hb12 => ?_)
    · rw [if_pos hb12] at h
      refine WC_seq ?_
      refine WC_region ?_
      refine WL_val gd0 ((o_move (v := .pointer w6) (by exact e3_8)) _) rfl ?_
      refine WL_val gd0 ((o_neqPtrNil Try.underlying23 rfl rfl) _) rfl ?_
      refine WL_val gd0 ((o_move (v := .bool (!(w6).isNone)) rfl) _) rfl ?_
      refine bsplit (!(w6).isNone) (fun hb13 => ?_) (fun hb13 => ?_)
      · rw [if_pos hb13] at h
        refine WL_call (gdY (b := (!(w6).isNone)) 16 rfl rfl hb13) (o_call Try.call10 argNil _) rfl (h.mono ?_)
        rintro _ w14 ⟨x15, rfl, h⟩
        refine WL_val gd0 ((o_pickT (v := .bool x15) rfl hb13 rfl) _) rfl ?_
        refine WL_val gd0 ((o_assign (v := .bool x15) rfl) _) rfl ?_
        refine WL_nil ?_
        refine nrm ?_
        refine WC_ret ?_
        refine rtT ?_
        refine rtE ?_
        exact gv1 rfl rfl h
      · rw [if_neg (neT hb13)] at h
        refine WL_skip (gdN (b := (!(w6).isNone)) 16 rfl rfl hb13) rfl ?_
        refine WL_val gd0 ((o_pickF (v := .bool false) rfl hb13 rfl) _) rfl ?_
        refine WL_val gd0 ((o_assign (v := .bool false) rfl) _) rfl ?_
        refine WL_nil ?_
        refine nrm ?_
        refine WC_ret ?_
        refine rtT ?_
        refine rtE ?_
        exact gv1 rfl rfl h
    · rw [if_neg (neT hb12)] at h
      refine WC_skip ?_
      refine nrm ?_
      refine WC_seq ?_
      refine WC_region ?_
      have h := New.out h
      refine WL_val gd0 (o_alloc (z := .agg #[.slice none 0 0]) (cs := [.slice none 0 0]) Try.zeroValue29 rfl) rfl ?_
      generalize hp16 : fresh w11 = p16 at h ⊢
      generalize hw17 : push w11 29 [.slice none 0 0] = w17 at h ⊢
      try dsimp only at h
      refine WL_nil ?_
      refine nrm ?_
      refine WC_seq ?_
      refine WC_seq ?_
      refine WC_region ?_
      refine WL_val gd0 ((o_assign (v := .int .i64 0) rfl) _) rfl ?_
      refine WL_nil ?_
      refine nrm ?_
      refine WC_block ?_
      obtain ⟨J23, ⟨n23, h0⟩, hr23⟩ := h
      refine WC_loop (fun n ρ w' => ∃ (i22 : Int), ρ 5 = .int .i64 i22 ∧ ρ 0 = .slice l_a1 l_n2 l_c3 ∧ ρ 3 = .pointer w6 ∧ ρ 4 = .pointer (some p16) ∧ J23 n i22 w') ⟨n23, _, rfl, e0_7, e3_8, rfl, h0⟩ ?_
      rintro n23 ρ w23 ⟨i22, e5_21, e0_18, e3_19, e4_20, h⟩
      have h : F3_b2 l_n2 l_a1 w6 p16 i22 w23 k (fun x0 w => ∃ m, m < n23 ∧ J23 m x0 w) := hr23 n23 i22 w23 h
      unfold F3_b2 at h
      refine WC_seq ?_
      refine WC_seq ?_
      refine WC_region ?_
      refine WL_val gd0 ((o_move (v := .int .i64 i22) (by exact e5_21)) _) rfl ?_
      refine WL_val gd0 ((o_move (v := .slice l_a1 l_n2 l_c3) (by exact e0_18)) _) rfl ?_
      refine WL_val gd0 ((o_len Try.underlying22 rfl) _) rfl ?_
      refine WL_val gd0 ((o_lss rfl rfl) _) rfl ?_
      refine WL_nil ?_
      refine nrm ?_
      refine WC_cond (t := (decide (i22 < (l_n2 : Int)))) rfl (fun hb25 => ?_) (fun hb25 => ?_)
      · rw [if_pos (of_decide_eq_true hb25)] at h
        refine WC_skip ?_
        refine nrm ?_
        refine WC_seq ?_
        refine WC_block ?_
        refine WC_seq ?_
        refine WC_seq ?_
        refine WC_draws [(0, true), (1, true), (2, true), (3, true), (4, true), (5, true), (6, true), (7, true), (8, true), (9, true), (10, true), (12, true), (11, false), (13, true)] Try.mixed (by kernel_rfl) ?_
        refine WQ_val rfl gd0 (o_move (v := .pointer w6) (by exact e3_19)) rfl ?_
        refine WQ_val rfl gd0 (o_move (v := .slice l_a1 l_n2 l_c3) (by exact e0_18)) rfl ?_
        refine WQ_val rfl gd0 (o_move (v := .int .i64 i22) (by exact e5_21)) rfl ?_
        obtain ⟨p28, q29, h⟩ := h
        obtain ⟨l26, u27, h⟩ := h
        refine WQ_val rfl gd0 (o_indexAddr Try.underlying22 Try.sizeOf33 (by exact (congrArg (fun z => Value.slice z l_n2 l_c3) q29)) rfl l26 u27) rfl ?_
        refine WQ_val rfl gd0 (o_fieldAddr0 Try.underlying33 rfl Try.sizeOf31 rfl rfl rfl) rfl ?_
        obtain ⟨x30, hc31, h⟩ := h
        refine WQ_look (fun w => w.cell? (p28.add (i22.toNat * 2)) = some (.int .u64 x30)) rfl gd0 (fun w hc => (o_load Try.isAgg31 rfl hc)) hc31 rfl ?_
        refine WQ_val rfl gd0 (o_move (v := .slice l_a1 l_n2 l_c3) (by exact e0_18)) rfl ?_
        refine WQ_val rfl gd0 (o_move (v := .int .i64 i22) (by exact e5_21)) rfl ?_
        obtain ⟨l32, u33, h⟩ := h
        refine WQ_val rfl gd0 (o_indexAddr Try.underlying22 Try.sizeOf33 (by exact (congrArg (fun z => Value.slice z l_n2 l_c3) q29)) rfl l32 u33) rfl ?_
        refine WQ_val rfl gd0 (o_fieldAddr 1 Try.underlying33 rfl Try.sizeOf3 rfl rfl rfl) rfl ?_
        obtain ⟨x34, hc35, h⟩ := h
        refine WQ_look (fun w => w.cell? ((p28.add (i22.toNat * 2)).add 1) = some (.int .i64 x34)) rfl gd0 (fun w hc => (o_load Try.isAgg3 rfl hc)) hc35 rfl ?_
        refine WQ_val rfl gd0 (o_move (v := .pointer w6) (by exact e3_19)) rfl ?_
        refine WQ_call rfl gd0 (o_call Try.call11 (argCons rfl (argCons rfl (argCons rfl argNil))) _) rfl (h.mono ?_)
        rintro _ w36 ⟨x37, rfl, h⟩
        refine ⟨⟨⟨trivial, depT (by kernel_rfl)⟩, depT (by kernel_rfl)⟩, ?_⟩
        obtain ⟨p38, q39, h⟩ := h
        obtain ⟨p40, q41, h⟩ := h
        obtain ⟨c42, h⟩ := h
        refine WQ_val rfl gd0 (o_neqPtr Try.underlying23 Try.sizeOf53 rfl (by exact (congrArg Value.pointer q39)) (by exact (congrArg Value.pointer q41)) c42) rfl ?_
        refine WQ_nil ?_
        refine nrm ?_
        refine WC_cond (t := (!(p38 == p40))) rfl (fun hb43 => ?_) (fun hb43 => ?_)
        · rw [if_pos hb43] at h
          refine WC_seq ?_
          refine WC_region ?_
          refine WL_val gd0 ((o_assign (v := .bool false) rfl) _) rfl ?_
          refine WL_nil ?_
          refine nrm ?_
          refine WC_ret ?_
          refine rtT ?_
          refine rtB ?_
          refine rtT ?_
          refine rtT ?_
          refine rtB ?_
          refine rtT ?_
          refine rtE ?_
          exact gv1 rfl rfl h
        · rw [if_neg (neT hb43)] at h
          refine WC_skip ?_
          refine nrm ?_
          refine WC_seq ?_
          refine WC_draws [(0, true), (1, true), (2, true), (3, true), (4, true), (5, true), (6, true), (7, true), (8, true), (9, true), (10, false)] Try.mixed (by kernel_rfl) ?_
          refine WQ_val rfl gd0 (o_move (v := .slice l_a1 l_n2 l_c3) (by exact e0_18)) rfl ?_
          refine WQ_val rfl gd0 (o_move (v := .int .i64 i22) (by exact e5_21)) rfl ?_
          obtain ⟨l44, u45, h⟩ := h
          refine WQ_val rfl gd0 (o_indexAddr Try.underlying22 Try.sizeOf33 (by exact (congrArg (fun z => Value.slice z l_n2 l_c3) q29)) rfl l44 u45) rfl ?_
          refine WQ_val rfl gd0 (o_fieldAddr0 Try.underlying33 rfl Try.sizeOf31 rfl rfl rfl) rfl ?_
          obtain ⟨x46, hc47, h⟩ := h
          refine WQ_look (fun w => w.cell? (p28.add (i22.toNat * 2)) = some (.int .u64 x46)) rfl gd0 (fun w hc => (o_load Try.isAgg31 rfl hc)) hc47 rfl ?_
          refine WQ_val rfl gd0 (o_move (v := .slice l_a1 l_n2 l_c3) (by exact e0_18)) rfl ?_
          refine WQ_val rfl gd0 (o_move (v := .int .i64 i22) (by exact e5_21)) rfl ?_
          obtain ⟨l48, u49, h⟩ := h
          refine WQ_val rfl gd0 (o_indexAddr Try.underlying22 Try.sizeOf33 (by exact (congrArg (fun z => Value.slice z l_n2 l_c3) q29)) rfl l48 u49) rfl ?_
          refine WQ_val rfl gd0 (o_fieldAddr 1 Try.underlying33 rfl Try.sizeOf3 rfl rfl rfl) rfl ?_
          obtain ⟨x50, hc51, h⟩ := h
          refine WQ_look (fun w => w.cell? ((p28.add (i22.toNat * 2)).add 1) = some (.int .i64 x50)) rfl gd0 (fun w hc => (o_load Try.isAgg3 rfl hc)) hc51 rfl ?_
          refine WQ_call rfl gd0 (o_call Try.call12 (argCons (by exact e4_20) (argCons rfl (argCons rfl argNil))) _) rfl (h.mono ?_)
          rintro _ w52 ⟨rfl, h⟩
          refine ⟨⟨⟨trivial, depT (by kernel_rfl)⟩, depT (by kernel_rfl)⟩, ?_⟩
          refine WQ_nil ?_
          refine nrm ?_
          refine WC_seq ?_
          refine WC_draws [(0, true), (2, true), (3, true), (4, true), (1, false), (5, true), (6, true), (7, true), (8, false), (9, false), (10, false), (11, true), (12, true)] Try.mixed (by kernel_rfl) ?_
          refine WQ_val rfl gd0 (o_move (v := .pointer w6) (by exact e3_19)) rfl ?_
          refine WQ_val rfl gd0 (o_fieldAddr0 Try.underlying29 rfl Try.sizeOf27 rfl rfl (by exact e4_20)) rfl ?_
          obtain ⟨x_a53, x_n54, x_c55, hc56, h⟩ := h
          refine WQ_look (fun w => w.cell? p16 = some (.slice x_a53 x_n54 x_c55)) rfl gd0 (fun w hc => (o_load Try.isAgg27 rfl hc)) hc56 rfl ?_
          refine WQ_val rfl gd0 (o_len Try.underlying27 rfl) rfl ?_
          refine WQ_call rfl gd0 (o_call Try.call13 (argCons rfl argNil) _) rfl (h.mono ?_)
          rintro _ w57 ⟨x58, rfl, hh59, h⟩
          refine ⟨⟨trivial, fun _ => hh59⟩, ?_⟩
          refine WQ_val rfl gd0 (o_neq rfl rfl) rfl ?_
          refine WQ_val rfl gd0 (o_move (v := .bool (decide (x58 ≠ (x_n54 : Int)))) rfl) rfl ?_
          refine bsplit (decide (x58 ≠ (x_n54 : Int))) (fun hb60 => ?_) (fun hb60 => ?_)
          · rw [if_pos (of_decide_eq_true hb60)] at h
            refine WQ_skip rfl (gdN (b := (decide (x58 ≠ (x_n54 : Int)))) 56 rfl rfl hb60) rfl ?_
            refine WQ_passAct rfl (gdN (b := (decide (x58 ≠ (x_n54 : Int)))) 56 rfl rfl hb60) rfl (by exact ⟨trivial, depT (by kernel_rfl)⟩) ?_
            refine WQ_passAct rfl (gdN (b := (decide (x58 ≠ (x_n54 : Int)))) 56 rfl rfl hb60) rfl (by exact ⟨trivial, depT (by kernel_rfl)⟩) ?_
            refine WQ_passAct rfl (gdN (b := (decide (x58 ≠ (x_n54 : Int)))) 56 rfl rfl hb60) rfl (by exact ⟨trivial, depT (by kernel_rfl)⟩) ?_
            refine WQ_skip rfl (gdN (b := (decide (x58 ≠ (x_n54 : Int)))) 56 rfl rfl hb60) rfl ?_
            refine WQ_val rfl gd0 (o_pickT (v := .bool true) rfl hb60 rfl) rfl ?_
            refine WQ_nil ?_
            refine nrm ?_
            refine WC_cond (t := true) rfl (fun _ => ?_) (fun hx => by rw [(rfl : true = true)] at hx; cases hx)
            refine WC_seq ?_
            refine WC_region ?_
            refine WL_val gd0 ((o_assign (v := .bool false) rfl) _) rfl ?_
            refine WL_nil ?_
            refine nrm ?_
            refine WC_ret ?_
            refine rtB ?_
            refine rtT ?_
            refine rtT ?_
            refine rtB ?_
            refine rtT ?_
            refine rtE ?_
            exact gv1 rfl rfl h
          · rw [if_neg (of_decide_eq_false hb60)] at h
            refine WQ_val rfl (gdY (b := (decide (x58 ≠ (x_n54 : Int)))) 56 rfl rfl hb60) (o_move (v := .pointer w6) (by exact e3_19)) rfl ?_
            refine WQ_call rfl (gdY (b := (decide (x58 ≠ (x_n54 : Int)))) 56 rfl rfl hb60) (o_call Try.call15 (argCons rfl argNil) _) rfl (h.mono ?_)
            rintro _ w61 ⟨x_a62, x_n63, x_c64, rfl, h⟩
            refine ⟨⟨trivial, depT (by kernel_rfl)⟩, ?_⟩
            refine WQ_call rfl (gdY (b := (decide (x58 ≠ (x_n54 : Int)))) 56 rfl rfl hb60) (o_call Try.call16 (argCons (by exact e4_20) argNil) _) rfl (h.mono ?_)
            rintro _ w65 ⟨x_a66, x_n67, x_c68, rfl, h⟩
            refine ⟨⟨trivial, depT (by kernel_rfl)⟩, ?_⟩
            refine WQ_call rfl (gdY (b := (decide (x58 ≠ (x_n54 : Int)))) 56 rfl rfl hb60) (o_call Try.call14 (argCons rfl (argCons rfl argNil)) _) rfl (h.mono ?_)
            rintro _ w69 ⟨x70, rfl, h⟩
            refine ⟨⟨trivial, depT (by kernel_rfl)⟩, ?_⟩
            refine WQ_val rfl (gdY (b := (decide (x58 ≠ (x_n54 : Int)))) 56 rfl rfl hb60) (o_not rfl) rfl ?_
            refine WQ_val rfl gd0 (o_pickF (v := .bool (!x70)) rfl hb60 rfl) rfl ?_
            refine WQ_nil ?_
            refine nrm ?_
            refine WC_cond (t := (!x70)) rfl (fun hb71 => ?_) (fun hb71 => ?_)
            · rw [if_pos hb71] at h
              refine WC_seq ?_
              refine WC_region ?_
              refine WL_val gd0 ((o_assign (v := .bool false) rfl) _) rfl ?_
              refine WL_nil ?_
              refine nrm ?_
              refine WC_ret ?_
              refine rtB ?_
              refine rtT ?_
              refine rtT ?_
              refine rtB ?_
              refine rtT ?_
              refine rtE ?_
              exact gv1 rfl rfl h
            · rw [if_neg (neT hb71)] at h
              refine WC_skip ?_
              refine nrmB ?_
              refine nrm ?_
              refine WC_region ?_
              refine WL_val gd0 ((o_move (v := .int .i64 i22) (by exact e5_21)) _) rfl ?_
              refine WL_val gd0 ((o_add rfl rfl) _) rfl ?_
              refine WL_val gd0 ((o_assign (v := .int .i64 (IntKind.i64.wrap (i22 + 1))) rfl) _) rfl ?_
              refine WL_nil ?_
              refine nrm ?_
              obtain ⟨m24, hm24, h⟩ := h
              exact ⟨m24, hm24, _, rfl, e0_18, e3_19, e4_20, h⟩
      · rw [if_neg (of_decide_eq_false hb25)] at h
        refine WC_exit ?_
        refine exT ?_
        refine exT ?_
        refine exB ?_
        refine nrm ?_
        refine WC_seq ?_
        refine WC_region ?_
        refine WL_call gd0 (o_call Try.call10 argNil _) rfl (h.mono ?_)
        rintro _ w72 ⟨t73, rfl, h⟩
        refine WL_val gd0 ((o_assign (v := .bool t73) rfl) _) rfl ?_
        refine WL_nil ?_
        refine nrm ?_
        refine WC_ret ?_
        refine rtE ?_
        exact gv1 rfl rfl h

def F4_b3 (l_n2 : Nat) (l_a1 : Option Addr) (r40 : Option Addr) (i45 : Int) (w46 : World) (k : Value → World → Prop) (nx46 : Int → World → Prop) : Prop :=
  if i45 < (l_n2 : Int) then
  ∃ (p51 : Addr), l_a1 = some p51 ∧ (0 : Int) ≤ i45 ∧ i45 < (l_n2 : Int) ∧ ∃ (x53 : Int), w46.drew.cell? ((p51.add (i45.toNat * 2)).add 1) = some (.int .i64 x53) ∧ if 0 ≤ x53 then
    (0 : Int) ≤ i45 ∧ i45 < (l_n2 : Int) ∧ ∃ (x58 : Int), w46.drew.cell? ((p51.add (i45.toNat * 2)).add 1) = some (.int .i64 x58) ∧ if x58 ≤ 64 then
      (0 : Int) ≤ i45 ∧ i45 < (l_n2 : Int) ∧ ∃ (x63 : Int), w46.drew.cell? ((p51.add (i45.toNat * 2)).add 1) = some (.int .i64 x63) ∧ (0 : Int) ≤ i45 ∧ i45 < (l_n2 : Int) ∧ ∃ (x67 : Int), w46.drew.cell? (p51.add (i45.toNat * 2)) = some (.int .u64 x67) ∧ (0 : Int) ≤ i45 ∧ i45 < (l_n2 : Int) ∧ ∃ (x71 : Int), w46.drew.cell? ((p51.add (i45.toNat * 2)).add 1) = some (.int .i64 x71) ∧ Does Try.prog 18 #[.pointer r40, .int .i64 x63] w46.drew (fun v w73 => ∃ (x74 : Int), v = .int .u64 x74 ∧ w73.cell? (p51.add (i45.toNat * 2)) = some (.int .u64 x67) ∧ w73.cell? ((p51.add (i45.toNat * 2)).add 1) = some (.int .i64 x71) ∧ Does Try.prog 19 #[.int .u64 x67, .int .i64 x71] w73 (fun v w77 => ∃ (x78 : Int), v = .int .u64 x78 ∧ if x74 ≠ x78 then
        k (.bool false) w77
      else
        nx46 (IntKind.i64.wrap (i45 + 1)) w77))
    else
      nx46 (IntKind.i64.wrap (i45 + 1)) w46.drew
  else
    nx46 (IntKind.i64.wrap (i45 + 1)) w46.drew
else
  Does Try.prog 20 #[.pointer r40] w46 (fun v w80 => ∃ (left81 : Int), v = .int .i64 left81 ∧ if left81 < 8 then
    Does Try.prog 21 #[.pointer r40] w80 (fun v w83 => ∃ (x84 : Bool), v = .bool x84 ∧ if (!x84) = true then
      Does Try.prog 18 #[.pointer r40, .int .i64 left81] w83 (fun v w86 => ∃ (x87 : Int), v = .int .u64 x87 ∧ if x87 = 0 then
        Does Try.prog 21 #[.pointer r40] w86 (fun v w89 => ∃ (x90 : Bool), v = .bool x90 ∧ if (!x90) = true then
          Does Try.prog 10 #[] w89 (fun v w92 => ∃ (x93 : Bool), v = .bool x93 ∧ k (.bool x93) w92)
        else
          k (.bool false) w89)
      else
        k (.bool false) w86)
    else
      k (.bool false) w83)
  else
    k (.bool false) w80)
def F4_b2 (l_n2 : Nat) (l_a1 : Option Addr) (w6 : Option Addr) (i19 : Int) (w20 : World) (nx20 : Int → World → Prop) (k : Value → World → Prop) : Prop :=
  if i19 < (l_n2 : Int) then
  ∃ (p25 : Addr), l_a1 = some p25 ∧ (0 : Int) ≤ i19 ∧ i19 < (l_n2 : Int) ∧ ∃ (x27 : Int), w20.drew.cell? (p25.add (i19.toNat * 2)) = some (.int .u64 x27) ∧ (0 : Int) ≤ i19 ∧ i19 < (l_n2 : Int) ∧ ∃ (x31 : Int), w20.drew.cell? ((p25.add (i19.toNat * 2)).add 1) = some (.int .i64 x31) ∧ Does Try.prog 11 #[.pointer w6, .int .u64 x27, .int .i64 x31] w20.drew (fun v w33 => ∃ (x34 : Option Addr), v = .pointer x34 ∧ nx20 (IntKind.i64.wrap (i19 + 1)) w33)
else
  Does Try.prog 15 #[.pointer w6] w20 (fun v w35 => ∃ (x_a36 : Option Addr) (x_n37 x_c38 : Nat), v = .slice x_a36 x_n37 x_c38 ∧ Does Try.prog 17 #[.slice x_a36 x_n37 x_c38] w35 (fun v w39 => ∃ (r40 : Option Addr), v = .pointer r40 ∧ if (r40).isNone = true then
    k (.bool false) w39
  else
    LoopP (fun (s : Int) w' nx' => F4_b3 l_n2 l_a1 r40 s w' k (fun x0 w => nx' x0 w)) 0 w39))
def F4_j1 (w6 : Option Addr) (l_n2 : Nat) (l_a1 : Option Addr) (t10 : Bool) (w11 : World) (k : Value → World → Prop) : Prop :=
  if t10 = true then
  if (!(w6).isNone) = true then
    Does Try.prog 10 #[] w11 (fun v w14 => ∃ (x15 : Bool), v = .bool x15 ∧ k (.bool x15) w14)
  else
    k (.bool false) w11
else
  LoopP (fun (s : Int) w' nx' => F4_b2 l_n2 l_a1 w6 s w' (fun x0 w => nx' x0 w) k) 0 w11
/-- spacecraft spacecraftlaw02.BitsBack -/
def F4 (l_a1 : Option Addr) (l_n2 : Nat) (l_c3 : Nat) (w4 : World) (k : Value → World → Prop) : Prop :=
  Does Try.prog 8 #[] w4 (fun v w5 => ∃ (w6 : Option Addr), v = .pointer w6 ∧ Does Try.prog 9 #[.slice l_a1 l_n2 l_c3] w5 (fun v w94 => ∃ (x95 : Bool), v = .bool x95 ∧ if (!x95) = true then
  F4_j1 w6 l_n2 l_a1 true w94 k
else
  F4_j1 w6 l_n2 l_a1 ((w6).isNone) w94 k))
set_option maxRecDepth 100000 in
set_option maxHeartbeats 2000000 in
theorem w4 (l_a1 : Option Addr) (l_n2 : Nat) (l_c3 : Nat) (w4 : World) (k : Value → World → Prop) (h : F4 l_a1 l_n2 l_c3 w4 k) : Does Try.prog 4 #[.slice l_a1 l_n2 l_c3] w4 k := by
  refine enter 108 Try.func4 rfl rfl rfl ?_
  intro ρ hρ
  have e0 := hρ 0 _ rfl
  unfold F4 at h
  refine WC_seq ?_
  refine WC_region ?_
  refine WL_val gd0 ((o_assign (v := .bool false) rfl) _) rfl ?_
  refine WL_nil ?_
  refine nrm ?_
  refine WC_seq ?_
  refine WC_region ?_
  refine WL_call gd0 (o_call Try.call8 argNil _) rfl (h.mono ?_)
  rintro _ w5 ⟨w6, rfl, h⟩
  refine WL_val gd0 ((o_assign (v := .pointer w6) rfl) _) rfl ?_
  refine WL_nil ?_
  refine nrm ?_
  refine WC_seq ?_
  refine WC_cut (fun ρ w' => ∃ (t10 : Bool), ρ 15 = .bool t10 ∧ ρ 0 = .slice l_a1 l_n2 l_c3 ∧ ρ 3 = .pointer w6 ∧ F4_j1 w6 l_n2 l_a1 t10 w' k) ?_ ?_
  · refine WC_region ?_
    refine WL_val gd0 ((o_move (v := .slice l_a1 l_n2 l_c3) (by exact e0)) _) rfl ?_
    refine WL_call gd0 (o_call Try.call9 (argCons rfl argNil) _) rfl (h.mono ?_)
    rintro _ w94 ⟨x95, rfl, h⟩
    refine WL_val gd0 ((o_not rfl) _) rfl ?_
    refine WL_val gd0 ((o_move (v := .bool (!x95)) rfl) _) rfl ?_
    refine bsplit (!x95) (fun hb96 => ?_) (fun hb96 => ?_)
    · rw [if_pos hb96] at h
      refine WL_skip (gdN (b := (!x95)) 12 rfl rfl hb96) rfl ?_
      refine WL_skip (gdN (b := (!x95)) 12 rfl rfl hb96) rfl ?_
      refine WL_val gd0 ((o_pickT (v := .bool true) rfl hb96 rfl) _) rfl ?_
      refine WL_nil ?_
      refine nrm ?_
      exact ⟨_, rfl, e0, rfl, h⟩
    · rw [if_neg (neT hb96)] at h
      refine WL_val (gdY (b := (!x95)) 12 rfl rfl hb96) ((o_move (v := .pointer w6) rfl) _) rfl ?_
      refine WL_val (gdY (b := (!x95)) 12 rfl rfl hb96) ((o_eqlPtrNil Try.underlying23 rfl rfl) _) rfl ?_
      refine WL_val gd0 ((o_pickF (v := .bool ((w6).isNone)) rfl hb96 rfl) _) rfl ?_
      refine WL_nil ?_
      refine nrm ?_
      exact ⟨_, rfl, e0, rfl, h⟩
  · rintro ρ w11 ⟨t10, e15_9, e0_7, e3_8, h⟩
    unfold F4_j1 at h
    refine WC_cond (t := t10) (by exact e15_9) (fun hb12 => ?_) (fun hb12 => ?_)
    · rw [if_pos hb12] at h
      refine WC_seq ?_
      refine WC_region ?_
      refine WL_val gd0 ((o_move (v := .pointer w6) (by exact e3_8)) _) rfl ?_
      refine WL_val gd0 ((o_neqPtrNil Try.underlying23 rfl rfl) _) rfl ?_
      refine WL_val gd0 ((o_move (v := .bool (!(w6).isNone)) rfl) _) rfl ?_
      refine bsplit (!(w6).isNone) (fun hb13 => ?_) (fun hb13 => ?_)
      · rw [if_pos hb13] at h
        refine WL_call (gdY (b := (!(w6).isNone)) 18 rfl rfl hb13) (o_call Try.call10 argNil _) rfl (h.mono ?_)
        rintro _ w14 ⟨x15, rfl, h⟩
        refine WL_val gd0 ((o_pickT (v := .bool x15) rfl hb13 rfl) _) rfl ?_
        refine WL_val gd0 ((o_assign (v := .bool x15) rfl) _) rfl ?_
        refine WL_nil ?_
        refine nrm ?_
        refine WC_ret ?_
        refine rtT ?_
        refine rtE ?_
        exact gv1 rfl rfl h
      · rw [if_neg (neT hb13)] at h
        refine WL_skip (gdN (b := (!(w6).isNone)) 18 rfl rfl hb13) rfl ?_
        refine WL_val gd0 ((o_pickF (v := .bool false) rfl hb13 rfl) _) rfl ?_
        refine WL_val gd0 ((o_assign (v := .bool false) rfl) _) rfl ?_
        refine WL_nil ?_
        refine nrm ?_
        refine WC_ret ?_
        refine rtT ?_
        refine rtE ?_
        exact gv1 rfl rfl h
    · rw [if_neg (neT hb12)] at h
      refine WC_skip ?_
      refine nrm ?_
      refine WC_seq ?_
      refine WC_seq ?_
      refine WC_region ?_
      refine WL_val gd0 ((o_assign (v := .int .i64 0) rfl) _) rfl ?_
      refine WL_nil ?_
      refine nrm ?_
      refine WC_block ?_
      obtain ⟨J20, ⟨n20, h0⟩, hr20⟩ := h
      refine WC_loop (fun n ρ w' => ∃ (i19 : Int), ρ 4 = .int .i64 i19 ∧ ρ 0 = .slice l_a1 l_n2 l_c3 ∧ ρ 3 = .pointer w6 ∧ J20 n i19 w') ⟨n20, _, rfl, e0_7, e3_8, h0⟩ ?_
      rintro n20 ρ w20 ⟨i19, e4_18, e0_16, e3_17, h⟩
      have h : F4_b2 l_n2 l_a1 w6 i19 w20 (fun x0 w => ∃ m, m < n20 ∧ J20 m x0 w) k := hr20 n20 i19 w20 h
      unfold F4_b2 at h
      refine WC_seq ?_
      refine WC_seq ?_
      refine WC_region ?_
      refine WL_val gd0 ((o_move (v := .int .i64 i19) (by exact e4_18)) _) rfl ?_
      refine WL_val gd0 ((o_move (v := .slice l_a1 l_n2 l_c3) (by exact e0_16)) _) rfl ?_
      refine WL_val gd0 ((o_len Try.underlying22 rfl) _) rfl ?_
      refine WL_val gd0 ((o_lss rfl rfl) _) rfl ?_
      refine WL_nil ?_
      refine nrm ?_
      refine WC_cond (t := (decide (i19 < (l_n2 : Int)))) rfl (fun hb22 => ?_) (fun hb22 => ?_)
      · rw [if_pos (of_decide_eq_true hb22)] at h
        refine WC_skip ?_
        refine nrm ?_
        refine WC_seq ?_
        refine WC_block ?_
        refine WC_draws [(0, true), (1, true), (2, true), (3, true), (4, true), (5, true), (6, true), (7, true), (8, true), (9, true), (10, true), (11, false)] Try.mixed (by kernel_rfl) ?_
        refine WQ_val rfl gd0 (o_move (v := .pointer w6) (by exact e3_17)) rfl ?_
        refine WQ_val rfl gd0 (o_move (v := .slice l_a1 l_n2 l_c3) (by exact e0_16)) rfl ?_
        refine WQ_val rfl gd0 (o_move (v := .int .i64 i19) (by exact e4_18)) rfl ?_
        obtain ⟨p25, q26, h⟩ := h
        obtain ⟨l23, u24, h⟩ := h
        refine WQ_val rfl gd0 (o_indexAddr Try.underlying22 Try.sizeOf33 (by exact (congrArg (fun z => Value.slice z l_n2 l_c3) q26)) rfl l23 u24) rfl ?_
        refine WQ_val rfl gd0 (o_fieldAddr0 Try.underlying33 rfl Try.sizeOf31 rfl rfl rfl) rfl ?_
        obtain ⟨x27, hc28, h⟩ := h
        refine WQ_look (fun w => w.cell? (p25.add (i19.toNat * 2)) = some (.int .u64 x27)) rfl gd0 (fun w hc => (o_load Try.isAgg31 rfl hc)) hc28 rfl ?_
        refine WQ_val rfl gd0 (o_move (v := .slice l_a1 l_n2 l_c3) (by exact e0_16)) rfl ?_
        refine WQ_val rfl gd0 (o_move (v := .int .i64 i19) (by exact e4_18)) rfl ?_
        obtain ⟨l29, u30, h⟩ := h
        refine WQ_val rfl gd0 (o_indexAddr Try.underlying22 Try.sizeOf33 (by exact (congrArg (fun z => Value.slice z l_n2 l_c3) q26)) rfl l29 u30) rfl ?_
        refine WQ_val rfl gd0 (o_fieldAddr 1 Try.underlying33 rfl Try.sizeOf3 rfl rfl rfl) rfl ?_
        obtain ⟨x31, hc32, h⟩ := h
        refine WQ_look (fun w => w.cell? ((p25.add (i19.toNat * 2)).add 1) = some (.int .i64 x31)) rfl gd0 (fun w hc => (o_load Try.isAgg3 rfl hc)) hc32 rfl ?_
        refine WQ_call rfl gd0 (o_call Try.call11 (argCons rfl (argCons rfl (argCons rfl argNil))) _) rfl (h.mono ?_)
        rintro _ w33 ⟨x34, rfl, h⟩
        refine ⟨⟨⟨trivial, depT (by kernel_rfl)⟩, depT (by kernel_rfl)⟩, ?_⟩
        refine WQ_nil ?_
        refine nrmB ?_
        refine nrm ?_
        refine WC_region ?_
        refine WL_val gd0 ((o_move (v := .int .i64 i19) (by exact e4_18)) _) rfl ?_
        refine WL_val gd0 ((o_add rfl rfl) _) rfl ?_
        refine WL_val gd0 ((o_assign (v := .int .i64 (IntKind.i64.wrap (i19 + 1))) rfl) _) rfl ?_
        refine WL_nil ?_
        refine nrm ?_
        obtain ⟨m21, hm21, h⟩ := h
        exact ⟨m21, hm21, _, rfl, e0_16, e3_17, h⟩
      · rw [if_neg (of_decide_eq_false hb22)] at h
        refine WC_exit ?_
        refine exT ?_
        refine exT ?_
        refine exB ?_
        refine nrm ?_
        refine WC_seq ?_
        refine WC_region ?_
        refine WL_val gd0 ((o_move (v := .pointer w6) (by exact e3_17)) _) rfl ?_
        refine WL_call gd0 (o_call Try.call15 (argCons rfl argNil) _) rfl (h.mono ?_)
        rintro _ w35 ⟨x_a36, x_n37, x_c38, rfl, h⟩
        refine WL_call gd0 (o_call Try.call17 (argCons rfl argNil) _) rfl (h.mono ?_)
        rintro _ w39 ⟨r40, rfl, h⟩
        refine WL_val gd0 ((o_assign (v := .pointer r40) rfl) _) rfl ?_
        refine WL_nil ?_
        refine nrm ?_
        refine WC_seq ?_
        refine WC_seq ?_
        refine WC_region ?_
        refine WL_val gd0 ((o_move (v := .pointer r40) rfl) _) rfl ?_
        refine WL_val gd0 ((o_eqlPtrNil Try.underlying38 rfl rfl) _) rfl ?_
        refine WL_nil ?_
        refine nrm ?_
        refine WC_cond (t := ((r40).isNone)) rfl (fun hb41 => ?_) (fun hb41 => ?_)
        · rw [if_pos hb41] at h
          refine WC_seq ?_
          refine WC_region ?_
          refine WL_val gd0 ((o_assign (v := .bool false) rfl) _) rfl ?_
          refine WL_nil ?_
          refine nrm ?_
          refine WC_ret ?_
          refine rtT ?_
          refine rtE ?_
          exact gv1 rfl rfl h
        · rw [if_neg (neT hb41)] at h
          refine WC_skip ?_
          refine nrm ?_
          refine WC_seq ?_
          refine WC_seq ?_
          refine WC_region ?_
          refine WL_val gd0 ((o_assign (v := .int .i64 0) rfl) _) rfl ?_
          refine WL_nil ?_
          refine nrm ?_
          refine WC_block ?_
          obtain ⟨J46, ⟨n46, h0⟩, hr46⟩ := h
          refine WC_loop (fun n ρ w' => ∃ (i45 : Int), ρ 6 = .int .i64 i45 ∧ ρ 0 = .slice l_a1 l_n2 l_c3 ∧ ρ 5 = .pointer r40 ∧ J46 n i45 w') ⟨n46, _, rfl, e0_16, rfl, h0⟩ ?_
          rintro n46 ρ w46 ⟨i45, e6_44, e0_42, e5_43, h⟩
          have h : F4_b3 l_n2 l_a1 r40 i45 w46 k (fun x0 w => ∃ m, m < n46 ∧ J46 m x0 w) := hr46 n46 i45 w46 h
          unfold F4_b3 at h
          refine WC_seq ?_
          refine WC_seq ?_
          refine WC_region ?_
          refine WL_val gd0 ((o_move (v := .int .i64 i45) (by exact e6_44)) _) rfl ?_
          refine WL_val gd0 ((o_move (v := .slice l_a1 l_n2 l_c3) (by exact e0_42)) _) rfl ?_
          refine WL_val gd0 ((o_len Try.underlying22 rfl) _) rfl ?_
          refine WL_val gd0 ((o_lss rfl rfl) _) rfl ?_
          refine WL_nil ?_
          refine nrm ?_
          refine WC_cond (t := (decide (i45 < (l_n2 : Int)))) rfl (fun hb48 => ?_) (fun hb48 => ?_)
          · rw [if_pos (of_decide_eq_true hb48)] at h
            refine WC_skip ?_
            refine nrm ?_
            refine WC_seq ?_
            refine WC_block ?_
            refine WC_seq ?_
            refine WC_draws [(0, true), (1, true), (2, true), (3, true), (4, true), (5, true), (6, true), (7, true), (8, true), (9, true), (10, true), (11, true), (12, true), (13, true), (14, true), (15, true), (16, true), (17, true), (18, true), (19, true), (20, true), (22, true), (23, true), (24, true), (25, true), (26, true), (27, true), (28, true), (29, true), (30, true), (31, true), (21, false), (32, false), (33, true), (34, true)] Try.mixed (by kernel_rfl) ?_
            refine WQ_val rfl gd0 (o_move (v := .slice l_a1 l_n2 l_c3) (by exact e0_42)) rfl ?_
            refine WQ_val rfl gd0 (o_move (v := .int .i64 i45) (by exact e6_44)) rfl ?_
            obtain ⟨p51, q52, h⟩ := h
            obtain ⟨l49, u50, h⟩ := h
            refine WQ_val rfl gd0 (o_indexAddr Try.underlying22 Try.sizeOf33 (by exact (congrArg (fun z => Value.slice z l_n2 l_c3) q52)) rfl l49 u50) rfl ?_
            refine WQ_val rfl gd0 (o_fieldAddr 1 Try.underlying33 rfl Try.sizeOf3 rfl rfl rfl) rfl ?_
            obtain ⟨x53, hc54, h⟩ := h
            refine WQ_look (fun w => w.cell? ((p51.add (i45.toNat * 2)).add 1) = some (.int .i64 x53)) rfl gd0 (fun w hc => (o_load Try.isAgg3 rfl hc)) hc54 rfl ?_
            refine WQ_val rfl gd0 (o_geq rfl rfl) rfl ?_
            refine WQ_val rfl gd0 (o_move (v := .bool (decide (0 ≤ x53))) rfl) rfl ?_
            refine bsplit (decide (0 ≤ x53)) (fun hb55 => ?_) (fun hb55 => ?_)
            · rw [if_pos (of_decide_eq_true hb55)] at h
              refine WQ_val rfl (gdY (b := (decide (0 ≤ x53))) 56 rfl rfl hb55) (o_move (v := .slice l_a1 l_n2 l_c3) (by exact e0_42)) rfl ?_
              refine WQ_val rfl (gdY (b := (decide (0 ≤ x53))) 56 rfl rfl hb55) (o_move (v := .int .i64 i45) (by exact e6_44)) rfl ?_
              obtain ⟨l56, u57, h⟩ := h
              refine WQ_val rfl (gdY (b := (decide (0 ≤ x53))) 56 rfl rfl hb55) (o_indexAddr Try.underlying22 Try.sizeOf33 (by exact (congrArg (fun z => Value.slice z l_n2 l_c3) q52)) rfl l56 u57) rfl ?_
              refine WQ_val rfl (gdY (b := (decide (0 ≤ x53))) 56 rfl rfl hb55) (o_fieldAddr 1 Try.underlying33 rfl Try.sizeOf3 rfl rfl rfl) rfl ?_
              obtain ⟨x58, hc59, h⟩ := h
              refine WQ_look (fun w => w.cell? ((p51.add (i45.toNat * 2)).add 1) = some (.int .i64 x58)) rfl (gdY (b := (decide (0 ≤ x53))) 56 rfl rfl hb55) (fun w hc => (o_load Try.isAgg3 rfl hc)) hc59 rfl ?_
              refine WQ_val rfl (gdY (b := (decide (0 ≤ x53))) 56 rfl rfl hb55) (o_leq rfl rfl) rfl ?_
              refine WQ_val rfl gd0 (o_pickT (v := .bool (decide (x58 ≤ 64))) rfl hb55 rfl) rfl ?_
              refine WQ_val rfl gd0 (o_move (v := .bool (decide (x58 ≤ 64))) rfl) rfl ?_
              refine bsplit (decide (x58 ≤ 64)) (fun hb60 => ?_) (fun hb60 => ?_)
              · rw [if_pos (of_decide_eq_true hb60)] at h
                refine WQ_val rfl (gdY (b := (decide (x58 ≤ 64))) 64 rfl rfl hb60) (o_move (v := .pointer r40) (by exact e5_43)) rfl ?_
                refine WQ_val rfl (gdY (b := (decide (x58 ≤ 64))) 64 rfl rfl hb60) (o_move (v := .slice l_a1 l_n2 l_c3) (by exact e0_42)) rfl ?_
                refine WQ_val rfl (gdY (b := (decide (x58 ≤ 64))) 64 rfl rfl hb60) (o_move (v := .int .i64 i45) (by exact e6_44)) rfl ?_
                obtain ⟨l61, u62, h⟩ := h
                refine WQ_val rfl (gdY (b := (decide (x58 ≤ 64))) 64 rfl rfl hb60) (o_indexAddr Try.underlying22 Try.sizeOf33 (by exact (congrArg (fun z => Value.slice z l_n2 l_c3) q52)) rfl l61 u62) rfl ?_
                refine WQ_val rfl (gdY (b := (decide (x58 ≤ 64))) 64 rfl rfl hb60) (o_fieldAddr 1 Try.underlying33 rfl Try.sizeOf3 rfl rfl rfl) rfl ?_
                obtain ⟨x63, hc64, h⟩ := h
                refine WQ_look (fun w => w.cell? ((p51.add (i45.toNat * 2)).add 1) = some (.int .i64 x63)) rfl (gdY (b := (decide (x58 ≤ 64))) 64 rfl rfl hb60) (fun w hc => (o_load Try.isAgg3 rfl hc)) hc64 rfl ?_
                refine WQ_val rfl (gdY (b := (decide (x58 ≤ 64))) 64 rfl rfl hb60) (o_move (v := .slice l_a1 l_n2 l_c3) (by exact e0_42)) rfl ?_
                refine WQ_val rfl (gdY (b := (decide (x58 ≤ 64))) 64 rfl rfl hb60) (o_move (v := .int .i64 i45) (by exact e6_44)) rfl ?_
                obtain ⟨l65, u66, h⟩ := h
                refine WQ_val rfl (gdY (b := (decide (x58 ≤ 64))) 64 rfl rfl hb60) (o_indexAddr Try.underlying22 Try.sizeOf33 (by exact (congrArg (fun z => Value.slice z l_n2 l_c3) q52)) rfl l65 u66) rfl ?_
                refine WQ_val rfl (gdY (b := (decide (x58 ≤ 64))) 64 rfl rfl hb60) (o_fieldAddr0 Try.underlying33 rfl Try.sizeOf31 rfl rfl rfl) rfl ?_
                obtain ⟨x67, hc68, h⟩ := h
                refine WQ_look (fun w => w.cell? (p51.add (i45.toNat * 2)) = some (.int .u64 x67)) rfl (gdY (b := (decide (x58 ≤ 64))) 64 rfl rfl hb60) (fun w hc => (o_load Try.isAgg31 rfl hc)) hc68 rfl ?_
                refine WQ_val rfl (gdY (b := (decide (x58 ≤ 64))) 64 rfl rfl hb60) (o_move (v := .slice l_a1 l_n2 l_c3) (by exact e0_42)) rfl ?_
                refine WQ_val rfl (gdY (b := (decide (x58 ≤ 64))) 64 rfl rfl hb60) (o_move (v := .int .i64 i45) (by exact e6_44)) rfl ?_
                obtain ⟨l69, u70, h⟩ := h
                refine WQ_val rfl (gdY (b := (decide (x58 ≤ 64))) 64 rfl rfl hb60) (o_indexAddr Try.underlying22 Try.sizeOf33 (by exact (congrArg (fun z => Value.slice z l_n2 l_c3) q52)) rfl l69 u70) rfl ?_
                refine WQ_val rfl (gdY (b := (decide (x58 ≤ 64))) 64 rfl rfl hb60) (o_fieldAddr 1 Try.underlying33 rfl Try.sizeOf3 rfl rfl rfl) rfl ?_
                obtain ⟨x71, hc72, h⟩ := h
                refine WQ_look (fun w => w.cell? ((p51.add (i45.toNat * 2)).add 1) = some (.int .i64 x71)) rfl (gdY (b := (decide (x58 ≤ 64))) 64 rfl rfl hb60) (fun w hc => (o_load Try.isAgg3 rfl hc)) hc72 rfl ?_
                refine WQ_call rfl (gdY (b := (decide (x58 ≤ 64))) 64 rfl rfl hb60) (o_call Try.call18 (argCons rfl (argCons rfl argNil)) _) rfl (h.mono ?_)
                rintro _ w73 ⟨x74, rfl, hh75, hh76, h⟩
                refine ⟨⟨⟨⟨⟨⟨trivial, depT (by kernel_rfl)⟩, depT (by kernel_rfl)⟩, depT (by kernel_rfl)⟩, fun _ => hh75⟩, fun _ => hh76⟩, ?_⟩
                refine WQ_call rfl (gdY (b := (decide (x58 ≤ 64))) 64 rfl rfl hb60) (o_call Try.call19 (argCons rfl (argCons rfl argNil)) _) rfl (h.mono ?_)
                rintro _ w77 ⟨x78, rfl, h⟩
                refine ⟨⟨⟨⟨⟨⟨trivial, depT (by kernel_rfl)⟩, depT (by kernel_rfl)⟩, depT (by kernel_rfl)⟩, depT (by kernel_rfl)⟩, depT (by kernel_rfl)⟩, ?_⟩
                refine WQ_val rfl (gdY (b := (decide (x58 ≤ 64))) 64 rfl rfl hb60) (o_neq rfl rfl) rfl ?_
                refine WQ_val rfl gd0 (o_pickT (v := .bool (decide (x74 ≠ x78))) rfl hb60 rfl) rfl ?_
                refine WQ_nil ?_
                refine nrm ?_
                refine WC_cond (t := (decide (x74 ≠ x78))) rfl (fun hb79 => ?_) (fun hb79 => ?_)
                · rw [if_pos (of_decide_eq_true hb79)] at h
                  refine WC_seq ?_
                  refine WC_region ?_
                  refine WL_val gd0 ((o_assign (v := .bool false) rfl) _) rfl ?_
                  refine WL_nil ?_
                  refine nrm ?_
                  refine WC_ret ?_
                  refine rtB ?_
                  refine rtT ?_
                  refine rtT ?_
                  refine rtB ?_
                  refine rtT ?_
                  refine rtE ?_
                  exact gv1 rfl rfl h
                · rw [if_neg (of_decide_eq_false hb79)] at h
                  refine WC_skip ?_
                  refine nrmB ?_
                  refine nrm ?_
                  refine WC_region ?_
                  refine WL_val gd0 ((o_move (v := .int .i64 i45) (by exact e6_44)) _) rfl ?_
                  refine WL_val gd0 ((o_add rfl rfl) _) rfl ?_
                  refine WL_val gd0 ((o_assign (v := .int .i64 (IntKind.i64.wrap (i45 + 1))) rfl) _) rfl ?_
                  refine WL_nil ?_
                  refine nrm ?_
                  obtain ⟨m47, hm47, h⟩ := h
                  exact ⟨m47, hm47, _, rfl, e0_42, e5_43, h⟩
              · rw [if_neg (of_decide_eq_false hb60)] at h
                refine WQ_skip rfl (gdN (b := (decide (x58 ≤ 64))) 64 rfl rfl hb60) rfl ?_
                refine WQ_skip rfl (gdN (b := (decide (x58 ≤ 64))) 64 rfl rfl hb60) rfl ?_
                refine WQ_skip rfl (gdN (b := (decide (x58 ≤ 64))) 64 rfl rfl hb60) rfl ?_
                refine WQ_skip rfl (gdN (b := (decide (x58 ≤ 64))) 64 rfl rfl hb60) rfl ?_
                refine WQ_skip rfl (gdN (b := (decide (x58 ≤ 64))) 64 rfl rfl hb60) rfl ?_
                refine WQ_skip rfl (gdN (b := (decide (x58 ≤ 64))) 64 rfl rfl hb60) rfl ?_
                refine WQ_skip rfl (gdN (b := (decide (x58 ≤ 64))) 64 rfl rfl hb60) rfl ?_
                refine WQ_skip rfl (gdN (b := (decide (x58 ≤ 64))) 64 rfl rfl hb60) rfl ?_
                refine WQ_skip rfl (gdN (b := (decide (x58 ≤ 64))) 64 rfl rfl hb60) rfl ?_
                refine WQ_skip rfl (gdN (b := (decide (x58 ≤ 64))) 64 rfl rfl hb60) rfl ?_
                refine WQ_skip rfl (gdN (b := (decide (x58 ≤ 64))) 64 rfl rfl hb60) rfl ?_
                refine WQ_skip rfl (gdN (b := (decide (x58 ≤ 64))) 64 rfl rfl hb60) rfl ?_
                refine WQ_skip rfl (gdN (b := (decide (x58 ≤ 64))) 64 rfl rfl hb60) rfl ?_
                refine WQ_skip rfl (gdN (b := (decide (x58 ≤ 64))) 64 rfl rfl hb60) rfl ?_
                refine WQ_skip rfl (gdN (b := (decide (x58 ≤ 64))) 64 rfl rfl hb60) rfl ?_
                refine WQ_skip rfl (gdN (b := (decide (x58 ≤ 64))) 64 rfl rfl hb60) rfl ?_
                refine WQ_passAct rfl (gdN (b := (decide (x58 ≤ 64))) 64 rfl rfl hb60) rfl (by exact ⟨⟨trivial, depT (by kernel_rfl)⟩, depT (by kernel_rfl)⟩) ?_
                refine WQ_passAct rfl (gdN (b := (decide (x58 ≤ 64))) 64 rfl rfl hb60) rfl (by exact ⟨⟨trivial, depT (by kernel_rfl)⟩, depT (by kernel_rfl)⟩) ?_
                refine WQ_skip rfl (gdN (b := (decide (x58 ≤ 64))) 64 rfl rfl hb60) rfl ?_
                refine WQ_val rfl gd0 (o_pickF (v := .bool false) rfl hb60 rfl) rfl ?_
                refine WQ_nil ?_
                refine nrm ?_
                refine WC_cond (t := false) rfl (fun hx => by rw [(rfl : false = false)] at hx; cases hx) (fun _ => ?_)
                refine WC_skip ?_
                refine nrmB ?_
                refine nrm ?_
                refine WC_region ?_
                refine WL_val gd0 ((o_move (v := .int .i64 i45) (by exact e6_44)) _) rfl ?_
                refine WL_val gd0 ((o_add rfl rfl) _) rfl ?_
                refine WL_val gd0 ((o_assign (v := .int .i64 (IntKind.i64.wrap (i45 + 1))) rfl) _) rfl ?_
                refine WL_nil ?_
                refine nrm ?_
                obtain ⟨m47, hm47, h⟩ := h
                exact ⟨m47, hm47, _, rfl, e0_42, e5_43, h⟩
            · rw [if_neg (of_decide_eq_false hb55)] at h
              refine WQ_skip rfl (gdN (b := (decide (0 ≤ x53))) 56 rfl rfl hb55) rfl ?_
              refine WQ_skip rfl (gdN (b := (decide (0 ≤ x53))) 56 rfl rfl hb55) rfl ?_
              refine WQ_skip rfl (gdN (b := (decide (0 ≤ x53))) 56 rfl rfl hb55) rfl ?_
              refine WQ_skip rfl (gdN (b := (decide (0 ≤ x53))) 56 rfl rfl hb55) rfl ?_
              refine WQ_skip rfl (gdN (b := (decide (0 ≤ x53))) 56 rfl rfl hb55) rfl ?_
              refine WQ_skip rfl (gdN (b := (decide (0 ≤ x53))) 56 rfl rfl hb55) rfl ?_
              refine WQ_val rfl gd0 (o_pickF (v := .bool false) rfl hb55 rfl) rfl ?_
              refine WQ_val rfl gd0 (o_move (v := .bool false) rfl) rfl ?_
              refine WQ_skip rfl (gdN (b := false) 64 rfl rfl rfl) rfl ?_
              refine WQ_skip rfl (gdN (b := false) 64 rfl rfl rfl) rfl ?_
              refine WQ_skip rfl (gdN (b := false) 64 rfl rfl rfl) rfl ?_
              refine WQ_skip rfl (gdN (b := false) 64 rfl rfl rfl) rfl ?_
              refine WQ_skip rfl (gdN (b := false) 64 rfl rfl rfl) rfl ?_
              refine WQ_skip rfl (gdN (b := false) 64 rfl rfl rfl) rfl ?_
              refine WQ_skip rfl (gdN (b := false) 64 rfl rfl rfl) rfl ?_
              refine WQ_skip rfl (gdN (b := false) 64 rfl rfl rfl) rfl ?_
              refine WQ_skip rfl (gdN (b := false) 64 rfl rfl rfl) rfl ?_
              refine WQ_skip rfl (gdN (b := false) 64 rfl rfl rfl) rfl ?_
              refine WQ_skip rfl (gdN (b := false) 64 rfl rfl rfl) rfl ?_
              refine WQ_skip rfl (gdN (b := false) 64 rfl rfl rfl) rfl ?_
              refine WQ_skip rfl (gdN (b := false) 64 rfl rfl rfl) rfl ?_
              refine WQ_skip rfl (gdN (b := false) 64 rfl rfl rfl) rfl ?_
              refine WQ_skip rfl (gdN (b := false) 64 rfl rfl rfl) rfl ?_
              refine WQ_skip rfl (gdN (b := false) 64 rfl rfl rfl) rfl ?_
              refine WQ_passAct rfl (gdN (b := false) 64 rfl rfl rfl) rfl (by exact ⟨trivial, depT (by kernel_rfl)⟩) ?_
              refine WQ_passAct rfl (gdN (b := false) 64 rfl rfl rfl) rfl (by exact ⟨trivial, depT (by kernel_rfl)⟩) ?_
              refine WQ_skip rfl (gdN (b := false) 64 rfl rfl rfl) rfl ?_
              refine WQ_val rfl gd0 (o_pickF (v := .bool false) rfl rfl rfl) rfl ?_
              refine WQ_nil ?_
              refine nrm ?_
              refine WC_cond (t := false) rfl (fun hx => by rw [(rfl : false = false)] at hx; cases hx) (fun _ => ?_)
              refine WC_skip ?_
              refine nrmB ?_
              refine nrm ?_
              refine WC_region ?_
              refine WL_val gd0 ((o_move (v := .int .i64 i45) (by exact e6_44)) _) rfl ?_
              refine WL_val gd0 ((o_add rfl rfl) _) rfl ?_
              refine WL_val gd0 ((o_assign (v := .int .i64 (IntKind.i64.wrap (i45 + 1))) rfl) _) rfl ?_
              refine WL_nil ?_
              refine nrm ?_
              obtain ⟨m47, hm47, h⟩ := h
              exact ⟨m47, hm47, _, rfl, e0_42, e5_43, h⟩
          · rw [if_neg (of_decide_eq_false hb48)] at h
            refine WC_exit ?_
            refine exT ?_
            refine exT ?_
            refine exB ?_
            refine nrm ?_
            refine WC_seq ?_
            refine WC_region ?_
            refine WL_val gd0 ((o_move (v := .pointer r40) (by exact e5_43)) _) rfl ?_
            refine WL_call gd0 (o_call Try.call20 (argCons rfl argNil) _) rfl (h.mono ?_)
            rintro _ w80 ⟨left81, rfl, h⟩
            refine WL_val gd0 ((o_assign (v := .int .i64 left81) rfl) _) rfl ?_
            refine WL_nil ?_
            refine nrm ?_
            refine WC_seq ?_
            refine WC_region ?_
            refine WL_val gd0 ((o_move (v := .int .i64 left81) rfl) _) rfl ?_
            refine WL_val gd0 ((o_lss rfl rfl) _) rfl ?_
            refine WL_val gd0 ((o_move (v := .bool (decide (left81 < 8))) rfl) _) rfl ?_
            refine bsplit (decide (left81 < 8)) (fun hb82 => ?_) (fun hb82 => ?_)
            · rw [if_pos (of_decide_eq_true hb82)] at h
              refine WL_val (gdY (b := (decide (left81 < 8))) 89 rfl rfl hb82) ((o_move (v := .pointer r40) (by exact e5_43)) _) rfl ?_
              refine WL_call (gdY (b := (decide (left81 < 8))) 89 rfl rfl hb82) (o_call Try.call21 (argCons rfl argNil) _) rfl (h.mono ?_)
              rintro _ w83 ⟨x84, rfl, h⟩
              refine WL_val (gdY (b := (decide (left81 < 8))) 89 rfl rfl hb82) ((o_not rfl) _) rfl ?_
              refine WL_val gd0 ((o_pickT (v := .bool (!x84)) rfl hb82 rfl) _) rfl ?_
              refine WL_val gd0 ((o_move (v := .bool (!x84)) rfl) _) rfl ?_
              refine bsplit (!x84) (fun hb85 => ?_) (fun hb85 => ?_)
              · rw [if_pos hb85] at h
                refine WL_val (gdY (b := (!x84)) 94 rfl rfl hb85) ((o_move (v := .pointer r40) (by exact e5_43)) _) rfl ?_
                refine WL_val (gdY (b := (!x84)) 94 rfl rfl hb85) ((o_move (v := .int .i64 left81) rfl) _) rfl ?_
                refine WL_call (gdY (b := (!x84)) 94 rfl rfl hb85) (o_call Try.call18 (argCons rfl (argCons rfl argNil)) _) rfl (h.mono ?_)
                rintro _ w86 ⟨x87, rfl, h⟩
                refine WL_val (gdY (b := (!x84)) 94 rfl rfl hb85) ((o_eql rfl rfl) _) rfl ?_
                refine WL_val gd0 ((o_pickT (v := .bool (decide (x87 = 0))) rfl hb85 rfl) _) rfl ?_
                refine WL_val gd0 ((o_move (v := .bool (decide (x87 = 0))) rfl) _) rfl ?_
                refine bsplit (decide (x87 = 0)) (fun hb88 => ?_) (fun hb88 => ?_)
                · rw [if_pos (of_decide_eq_true hb88)] at h
                  refine WL_val (gdY (b := (decide (x87 = 0))) 100 rfl rfl hb88) ((o_move (v := .pointer r40) (by exact e5_43)) _) rfl ?_
                  refine WL_call (gdY (b := (decide (x87 = 0))) 100 rfl rfl hb88) (o_call Try.call21 (argCons rfl argNil) _) rfl (h.mono ?_)
                  rintro _ w89 ⟨x90, rfl, h⟩
                  refine WL_val (gdY (b := (decide (x87 = 0))) 100 rfl rfl hb88) ((o_not rfl) _) rfl ?_
                  refine WL_val gd0 ((o_pickT (v := .bool (!x90)) rfl hb88 rfl) _) rfl ?_
                  refine WL_val gd0 ((o_move (v := .bool (!x90)) rfl) _) rfl ?_
                  refine bsplit (!x90) (fun hb91 => ?_) (fun hb91 => ?_)
                  · rw [if_pos hb91] at h
                    refine WL_call (gdY (b := (!x90)) 105 rfl rfl hb91) (o_call Try.call10 argNil _) rfl (h.mono ?_)
                    rintro _ w92 ⟨x93, rfl, h⟩
                    refine WL_val gd0 ((o_pickT (v := .bool x93) rfl hb91 rfl) _) rfl ?_
                    refine WL_val gd0 ((o_assign (v := .bool x93) rfl) _) rfl ?_
                    refine WL_nil ?_
                    refine nrm ?_
                    refine WC_ret ?_
                    refine rtE ?_
                    exact gv1 rfl rfl h
                  · rw [if_neg (neT hb91)] at h
                    refine WL_skip (gdN (b := (!x90)) 105 rfl rfl hb91) rfl ?_
                    refine WL_val gd0 ((o_pickF (v := .bool false) rfl hb91 rfl) _) rfl ?_
                    refine WL_val gd0 ((o_assign (v := .bool false) rfl) _) rfl ?_
                    refine WL_nil ?_
                    refine nrm ?_
                    refine WC_ret ?_
                    refine rtE ?_
                    exact gv1 rfl rfl h
                · rw [if_neg (of_decide_eq_false hb88)] at h
                  refine WL_skip (gdN (b := (decide (x87 = 0))) 100 rfl rfl hb88) rfl ?_
                  refine WL_skip (gdN (b := (decide (x87 = 0))) 100 rfl rfl hb88) rfl ?_
                  refine WL_skip (gdN (b := (decide (x87 = 0))) 100 rfl rfl hb88) rfl ?_
                  refine WL_val gd0 ((o_pickF (v := .bool false) rfl hb88 rfl) _) rfl ?_
                  refine WL_val gd0 ((o_move (v := .bool false) rfl) _) rfl ?_
                  refine WL_skip (gdN (b := false) 105 rfl rfl rfl) rfl ?_
                  refine WL_val gd0 ((o_pickF (v := .bool false) rfl rfl rfl) _) rfl ?_
                  refine WL_val gd0 ((o_assign (v := .bool false) rfl) _) rfl ?_
                  refine WL_nil ?_
                  refine nrm ?_
                  refine WC_ret ?_
                  refine rtE ?_
                  exact gv1 rfl rfl h
              · rw [if_neg (neT hb85)] at h
                refine WL_skip (gdN (b := (!x84)) 94 rfl rfl hb85) rfl ?_
                refine WL_skip (gdN (b := (!x84)) 94 rfl rfl hb85) rfl ?_
                refine WL_skip (gdN (b := (!x84)) 94 rfl rfl hb85) rfl ?_
                refine WL_skip (gdN (b := (!x84)) 94 rfl rfl hb85) rfl ?_
                refine WL_val gd0 ((o_pickF (v := .bool false) rfl hb85 rfl) _) rfl ?_
                refine WL_val gd0 ((o_move (v := .bool false) rfl) _) rfl ?_
                refine WL_skip (gdN (b := false) 100 rfl rfl rfl) rfl ?_
                refine WL_skip (gdN (b := false) 100 rfl rfl rfl) rfl ?_
                refine WL_skip (gdN (b := false) 100 rfl rfl rfl) rfl ?_
                refine WL_val gd0 ((o_pickF (v := .bool false) rfl rfl rfl) _) rfl ?_
                refine WL_val gd0 ((o_move (v := .bool false) rfl) _) rfl ?_
                refine WL_skip (gdN (b := false) 105 rfl rfl rfl) rfl ?_
                refine WL_val gd0 ((o_pickF (v := .bool false) rfl rfl rfl) _) rfl ?_
                refine WL_val gd0 ((o_assign (v := .bool false) rfl) _) rfl ?_
                refine WL_nil ?_
                refine nrm ?_
                refine WC_ret ?_
                refine rtE ?_
                exact gv1 rfl rfl h
            · rw [if_neg (of_decide_eq_false hb82)] at h
              refine WL_skip (gdN (b := (decide (left81 < 8))) 89 rfl rfl hb82) rfl ?_
              refine WL_skip (gdN (b := (decide (left81 < 8))) 89 rfl rfl hb82) rfl ?_
              refine WL_skip (gdN (b := (decide (left81 < 8))) 89 rfl rfl hb82) rfl ?_
              refine WL_val gd0 ((o_pickF (v := .bool false) rfl hb82 rfl) _) rfl ?_
              refine WL_val gd0 ((o_move (v := .bool false) rfl) _) rfl ?_
              refine WL_skip (gdN (b := false) 94 rfl rfl rfl) rfl ?_
              refine WL_skip (gdN (b := false) 94 rfl rfl rfl) rfl ?_
              refine WL_skip (gdN (b := false) 94 rfl rfl rfl) rfl ?_
              refine WL_skip (gdN (b := false) 94 rfl rfl rfl) rfl ?_
              refine WL_val gd0 ((o_pickF (v := .bool false) rfl rfl rfl) _) rfl ?_
              refine WL_val gd0 ((o_move (v := .bool false) rfl) _) rfl ?_
              refine WL_skip (gdN (b := false) 100 rfl rfl rfl) rfl ?_
              refine WL_skip (gdN (b := false) 100 rfl rfl rfl) rfl ?_
              refine WL_skip (gdN (b := false) 100 rfl rfl rfl) rfl ?_
              refine WL_val gd0 ((o_pickF (v := .bool false) rfl rfl rfl) _) rfl ?_
              refine WL_val gd0 ((o_move (v := .bool false) rfl) _) rfl ?_
              refine WL_skip (gdN (b := false) 105 rfl rfl rfl) rfl ?_
              refine WL_val gd0 ((o_pickF (v := .bool false) rfl rfl rfl) _) rfl ?_
              refine WL_val gd0 ((o_assign (v := .bool false) rfl) _) rfl ?_
              refine WL_nil ?_
              refine nrm ?_
              refine WC_ret ?_
              refine rtE ?_
              exact gv1 rfl rfl h

/-- spacecraft spacecraftlaw02.BitsSplits -/
def F5 (n1 : Int) (widths2 : Int) (widths3 : Int) (before4 : Int) (w5 : World) (k : Value → World → Prop) : Prop :=
  New w5 42 [.int .u8 widths2, .int .u8 widths3] (fun p6 w7 => (0 : Int) ≤ 0 ∧ 0 < (2 : Int) ∧ ∃ (x10 : Int), w7.drew.cell? (p6.add ((0 : Int).toNat)) = some (.int .u8 x10) ∧ (0 : Int) ≤ 1 ∧ 1 < (2 : Int) ∧ ∃ (x14 : Int), w7.drew.cell? (p6.add ((1 : Int).toNat)) = some (.int .u8 x14) ∧ Does Try.prog 8 #[] w7.drew (fun v w16 => ∃ (x17 : Option Addr), v = .pointer x17 ∧ Does Try.prog 8 #[] w16 (fun v w18 => ∃ (x19 : Option Addr), v = .pointer x19 ∧ if (x17).isNone = true then
  k (.bool false) w18
else
  if (x19).isNone = true then
    k (.bool false) w18
  else
    if 64 < (IntKind.i64.wrap ((IntKind.i64.wrap (Int.tmod x10 65)) + (IntKind.i64.wrap (Int.tmod x14 65)))) then
      Does Try.prog 10 #[] w18 (fun v w23 => ∃ (t24 : Bool), v = .bool t24 ∧ k (.bool t24) w23)
    else
      Does Try.prog 11 #[.pointer x17, .int .u64 (IntKind.u64.wrap before4), .int .i64 (IntKind.i64.wrap (Int.tmod before4 9))] w18 (fun v w25 => ∃ (x26 : Option Addr), v = .pointer x26 ∧ Does Try.prog 11 #[.pointer x19, .int .u64 (IntKind.u64.wrap before4), .int .i64 (IntKind.i64.wrap (Int.tmod before4 9))] w25 (fun v w27 => ∃ (x28 : Option Addr), v = .pointer x28 ∧ Does Try.prog 11 #[.pointer x17, .int .u64 n1, .int .i64 (IntKind.i64.wrap ((IntKind.i64.wrap (Int.tmod x10 65)) + (IntKind.i64.wrap (Int.tmod x14 65))))] w27 (fun v w29 => ∃ (x30 : Option Addr), v = .pointer x30 ∧ (0 : Int) ≤ IntKind.u64.wrap (IntKind.i64.wrap (Int.tmod x14 65)) ∧ Does Try.prog 11 #[.pointer x19, .int .u64 (shr .u64 n1 (IntKind.u64.wrap (IntKind.i64.wrap (Int.tmod x14 65)))), .int .i64 (IntKind.i64.wrap (Int.tmod x10 65))] w29 (fun v w32 => ∃ (x33 : Option Addr), v = .pointer x33 ∧ Does Try.prog 11 #[.pointer x19, .int .u64 n1, .int .i64 (IntKind.i64.wrap (Int.tmod x14 65))] w32 (fun v w34 => ∃ (x35 : Option Addr), v = .pointer x35 ∧ Does Try.prog 13 #[.pointer x17] w34 (fun v w36 => ∃ (x37 : Int), v = .int .i64 x37 ∧ Does Try.prog 13 #[.pointer x19] w36 (fun v w38 => ∃ (x39 : Int), v = .int .i64 x39 ∧ if x37 = x39 then
        Does Try.prog 15 #[.pointer x17] w38 (fun v w41 => ∃ (x_a42 : Option Addr) (x_n43 x_c44 : Nat), v = .slice x_a42 x_n43 x_c44 ∧ Does Try.prog 15 #[.pointer x19] w41 (fun v w45 => ∃ (x_a46 : Option Addr) (x_n47 x_c48 : Nat), v = .slice x_a46 x_n47 x_c48 ∧ Does Try.prog 14 #[.slice x_a42 x_n43 x_c44, .slice x_a46 x_n47 x_c48] w45 (fun v w49 => ∃ (x50 : Bool), v = .bool x50 ∧ if x50 = true then
          Does Try.prog 10 #[] w49 (fun v w52 => ∃ (x53 : Bool), v = .bool x53 ∧ k (.bool x53) w52)
        else
          k (.bool false) w49)))
      else
        k (.bool false) w38))))))))))
set_option maxRecDepth 100000 in
set_option maxHeartbeats 2000000 in
theorem w5 (n1 : Int) (widths2 : Int) (widths3 : Int) (before4 : Int) (w5 : World) (k : Value → World → Prop) (h : F5 n1 widths2 widths3 before4 w5 k) : Does Try.prog 5 #[.int .u64 n1, .agg #[.int .u8 widths2, .int .u8 widths3], .int .u8 before4] w5 k := by
  refine enter 78 Try.func5 rfl rfl rfl ?_
  intro ρ hρ
  have e0 := hρ 0 _ rfl
  have e1 := hρ 1 _ rfl
  have e2 := hρ 2 _ rfl
  unfold F5 at h
  refine WC_seq ?_
  refine WC_region ?_
  have h := New.out h
  refine WL_val gd0 (o_box (v := .agg #[.int .u8 widths2, .int .u8 widths3]) (cs := [.int .u8 widths2, .int .u8 widths3]) (by exact e1) rfl) rfl ?_
  generalize hp6 : fresh w5 = p6 at h ⊢
  generalize hw7 : push w5 42 [.int .u8 widths2, .int .u8 widths3] = w7 at h ⊢
  try dsimp only at h
  refine WL_val gd0 ((o_assign (v := .bool false) rfl) _) rfl ?_
  refine WL_nil ?_
  refine nrm ?_
  refine WC_seq ?_
  refine WC_draws [(0, true), (1, true), (2, true), (3, true), (4, true), (5, true), (6, true), (7, true), (8, true), (9, true)] Try.mixed (by kernel_rfl) ?_
  obtain ⟨l8, u9, h⟩ := h
  refine WQ_val rfl gd0 (o_indexAddrArr1 Try.underlying42 Try.sizeOf5 rfl rfl l8 u9) rfl ?_
  obtain ⟨x10, hc11, h⟩ := h
  refine WQ_look (fun w => w.cell? (p6.add ((0 : Int).toNat)) = some (.int .u8 x10)) rfl gd0 (fun w hc => (o_load Try.isAgg5 rfl hc)) hc11 rfl ?_
  refine WQ_val rfl gd0 (fun w => o_rem rfl rfl w (by decide)) rfl ?_
  refine WQ_val rfl gd0 (o_conv Try.underlying5 Try.underlying3 rfl) rfl ?_
  obtain ⟨l12, u13, h⟩ := h
  refine WQ_val rfl gd0 (o_indexAddrArr1 Try.underlying42 Try.sizeOf5 rfl rfl l12 u13) rfl ?_
  obtain ⟨x14, hc15, h⟩ := h
  refine WQ_look (fun w => w.cell? (p6.add ((1 : Int).toNat)) = some (.int .u8 x14)) rfl gd0 (fun w hc => (o_load Try.isAgg5 rfl hc)) hc15 rfl ?_
  refine WQ_val rfl gd0 (fun w => o_rem rfl rfl w (by decide)) rfl ?_
  refine WQ_val rfl gd0 (o_conv Try.underlying5 Try.underlying3 rfl) rfl ?_
  refine WQ_val rfl gd0 (o_assign (v := .int .i64 (IntKind.i64.wrap (Int.tmod x10 65))) rfl) rfl ?_
  refine WQ_val rfl gd0 (o_assign (v := .int .i64 (IntKind.i64.wrap (Int.tmod x14 65))) rfl) rfl ?_
  refine WQ_nil ?_
  refine nrm ?_
  refine WC_seq ?_
  refine WC_region ?_
  refine WL_call gd0 (o_call Try.call8 argNil _) rfl (h.mono ?_)
  rintro _ w16 ⟨x17, rfl, h⟩
  refine WL_call gd0 (o_call Try.call8 argNil _) rfl (h.mono ?_)
  rintro _ w18 ⟨x19, rfl, h⟩
  refine WL_val gd0 ((o_assign (v := .pointer x17) rfl) _) rfl ?_
  refine WL_val gd0 ((o_assign (v := .pointer x19) rfl) _) rfl ?_
  refine WL_nil ?_
  refine nrm ?_
  refine WC_seq ?_
  refine WC_seq ?_
  refine WC_region ?_
  refine WL_val gd0 ((o_move (v := .pointer x17) rfl) _) rfl ?_
  refine WL_val gd0 ((o_eqlPtrNil Try.underlying23 rfl rfl) _) rfl ?_
  refine WL_val gd0 ((o_move (v := .bool ((x17).isNone)) rfl) _) rfl ?_
  refine bsplit ((x17).isNone) (fun hb20 => ?_) (fun hb20 => ?_)
  · rw [if_pos hb20] at h
    refine WL_skip (gdN (b := ((x17).isNone)) 23 rfl rfl hb20) rfl ?_
    refine WL_skip (gdN (b := ((x17).isNone)) 23 rfl rfl hb20) rfl ?_
    refine WL_val gd0 ((o_pickT (v := .bool true) rfl hb20 rfl) _) rfl ?_
    refine WL_nil ?_
    refine nrm ?_
    refine WC_cond (t := true) rfl (fun _ => ?_) (fun hx => by rw [(rfl : true = true)] at hx; cases hx)
    refine WC_seq ?_
    refine WC_region ?_
    refine WL_val gd0 ((o_assign (v := .bool false) rfl) _) rfl ?_
    refine WL_nil ?_
    refine nrm ?_
    refine WC_ret ?_
    refine rtT ?_
    refine rtE ?_
    exact gv1 rfl rfl h
  · rw [if_neg (neT hb20)] at h
    refine WL_val (gdY (b := ((x17).isNone)) 23 rfl rfl hb20) ((o_move (v := .pointer x19) rfl) _) rfl ?_
    refine WL_val (gdY (b := ((x17).isNone)) 23 rfl rfl hb20) ((o_eqlPtrNil Try.underlying23 rfl rfl) _) rfl ?_
    refine WL_val gd0 ((o_pickF (v := .bool ((x19).isNone)) rfl hb20 rfl) _) rfl ?_
    refine WL_nil ?_
    refine nrm ?_
    refine WC_cond (t := ((x19).isNone)) rfl (fun hb21 => ?_) (fun hb21 => ?_)
    · rw [if_pos hb21] at h
      refine WC_seq ?_
      refine WC_region ?_
      refine WL_val gd0 ((o_assign (v := .bool false) rfl) _) rfl ?_
      refine WL_nil ?_
      refine nrm ?_
      refine WC_ret ?_
      refine rtT ?_
      refine rtE ?_
      exact gv1 rfl rfl h
    · rw [if_neg (neT hb21)] at h
      refine WC_skip ?_
      refine nrm ?_
      refine WC_seq ?_
      refine WC_seq ?_
      refine WC_region ?_
      refine WL_val gd0 ((o_move (v := .int .i64 (IntKind.i64.wrap (Int.tmod x10 65))) rfl) _) rfl ?_
      refine WL_val gd0 ((o_move (v := .int .i64 (IntKind.i64.wrap (Int.tmod x14 65))) rfl) _) rfl ?_
      refine WL_val gd0 ((o_add rfl rfl) _) rfl ?_
      refine WL_val gd0 ((o_gtr rfl rfl) _) rfl ?_
      refine WL_nil ?_
      refine nrm ?_
      refine WC_cond (t := (decide (64 < (IntKind.i64.wrap ((IntKind.i64.wrap (Int.tmod x10 65)) + (IntKind.i64.wrap (Int.tmod x14 65))))))) rfl (fun hb22 => ?_) (fun hb22 => ?_)
      · rw [if_pos (of_decide_eq_true hb22)] at h
        refine WC_seq ?_
        refine WC_region ?_
        refine WL_call gd0 (o_call Try.call10 argNil _) rfl (h.mono ?_)
        rintro _ w23 ⟨t24, rfl, h⟩
        refine WL_val gd0 ((o_assign (v := .bool t24) rfl) _) rfl ?_
        refine WL_nil ?_
        refine nrm ?_
        refine WC_ret ?_
        refine rtT ?_
        refine rtE ?_
        exact gv1 rfl rfl h
      · rw [if_neg (of_decide_eq_false hb22)] at h
        refine WC_skip ?_
        refine nrm ?_
        refine WC_seq ?_
        refine WC_region ?_
        refine WL_val gd0 ((o_move (v := .pointer x17) rfl) _) rfl ?_
        refine WL_val gd0 ((o_move (v := .int .u8 before4) (by exact e2)) _) rfl ?_
        refine WL_val gd0 ((o_conv Try.underlying5 Try.underlying31 rfl) _) rfl ?_
        refine WL_val gd0 ((o_move (v := .int .u8 before4) (by exact e2)) _) rfl ?_
        refine WL_val gd0 ((fun w => o_rem rfl rfl w (by decide)) _) rfl ?_
        refine WL_val gd0 ((o_conv Try.underlying5 Try.underlying3 rfl) _) rfl ?_
        refine WL_call gd0 (o_call Try.call11 (argCons rfl (argCons rfl (argCons rfl argNil))) _) rfl (h.mono ?_)
        rintro _ w25 ⟨x26, rfl, h⟩
        refine WL_nil ?_
        refine nrm ?_
        refine WC_seq ?_
        refine WC_region ?_
        refine WL_val gd0 ((o_move (v := .pointer x19) rfl) _) rfl ?_
        refine WL_val gd0 ((o_move (v := .int .u8 before4) (by exact e2)) _) rfl ?_
        refine WL_val gd0 ((o_conv Try.underlying5 Try.underlying31 rfl) _) rfl ?_
        refine WL_val gd0 ((o_move (v := .int .u8 before4) (by exact e2)) _) rfl ?_
        refine WL_val gd0 ((fun w => o_rem rfl rfl w (by decide)) _) rfl ?_
        refine WL_val gd0 ((o_conv Try.underlying5 Try.underlying3 rfl) _) rfl ?_
        refine WL_call gd0 (o_call Try.call11 (argCons rfl (argCons rfl (argCons rfl argNil))) _) rfl (h.mono ?_)
        rintro _ w27 ⟨x28, rfl, h⟩
        refine WL_nil ?_
        refine nrm ?_
        refine WC_seq ?_
        refine WC_region ?_
        refine WL_val gd0 ((o_move (v := .pointer x17) rfl) _) rfl ?_
        refine WL_val gd0 ((o_move (v := .int .u64 n1) (by exact e0)) _) rfl ?_
        refine WL_val gd0 ((o_move (v := .int .i64 (IntKind.i64.wrap (Int.tmod x10 65))) rfl) _) rfl ?_
        refine WL_val gd0 ((o_move (v := .int .i64 (IntKind.i64.wrap (Int.tmod x14 65))) rfl) _) rfl ?_
        refine WL_val gd0 ((o_add rfl rfl) _) rfl ?_
        refine WL_call gd0 (o_call Try.call11 (argCons rfl (argCons rfl (argCons rfl argNil))) _) rfl (h.mono ?_)
        rintro _ w29 ⟨x30, rfl, h⟩
        refine WL_nil ?_
        refine nrm ?_
        refine WC_seq ?_
        refine WC_region ?_
        refine WL_val gd0 ((o_move (v := .pointer x19) rfl) _) rfl ?_
        refine WL_val gd0 ((o_move (v := .int .u64 n1) (by exact e0)) _) rfl ?_
        refine WL_val gd0 ((o_move (v := .int .i64 (IntKind.i64.wrap (Int.tmod x14 65))) rfl) _) rfl ?_
        refine WL_val gd0 ((o_conv Try.underlying3 Try.underlying43 rfl) _) rfl ?_
        obtain ⟨c31, h⟩ := h
        refine WL_val gd0 ((o_shr rfl rfl c31) _) rfl ?_
        refine WL_val gd0 ((o_move (v := .int .i64 (IntKind.i64.wrap (Int.tmod x10 65))) rfl) _) rfl ?_
        refine WL_call gd0 (o_call Try.call11 (argCons rfl (argCons rfl (argCons rfl argNil))) _) rfl (h.mono ?_)
        rintro _ w32 ⟨x33, rfl, h⟩
        refine WL_nil ?_
        refine nrm ?_
        refine WC_seq ?_
        refine WC_region ?_
        refine WL_val gd0 ((o_move (v := .pointer x19) rfl) _) rfl ?_
        refine WL_val gd0 ((o_move (v := .int .u64 n1) (by exact e0)) _) rfl ?_
        refine WL_val gd0 ((o_move (v := .int .i64 (IntKind.i64.wrap (Int.tmod x14 65))) rfl) _) rfl ?_
        refine WL_call gd0 (o_call Try.call11 (argCons rfl (argCons rfl (argCons rfl argNil))) _) rfl (h.mono ?_)
        rintro _ w34 ⟨x35, rfl, h⟩
        refine WL_nil ?_
        refine nrm ?_
        refine WC_seq ?_
        refine WC_region ?_
        refine WL_val gd0 ((o_move (v := .pointer x17) rfl) _) rfl ?_
        refine WL_call gd0 (o_call Try.call13 (argCons rfl argNil) _) rfl (h.mono ?_)
        rintro _ w36 ⟨x37, rfl, h⟩
        refine WL_val gd0 ((o_move (v := .pointer x19) rfl) _) rfl ?_
        refine WL_call gd0 (o_call Try.call13 (argCons rfl argNil) _) rfl (h.mono ?_)
        rintro _ w38 ⟨x39, rfl, h⟩
        refine WL_val gd0 ((o_eql rfl rfl) _) rfl ?_
        refine WL_val gd0 ((o_move (v := .bool (decide (x37 = x39))) rfl) _) rfl ?_
        refine bsplit (decide (x37 = x39)) (fun hb40 => ?_) (fun hb40 => ?_)
        · rw [if_pos (of_decide_eq_true hb40)] at h
          refine WL_val (gdY (b := (decide (x37 = x39))) 68 rfl rfl hb40) ((o_move (v := .pointer x17) rfl) _) rfl ?_
          refine WL_call (gdY (b := (decide (x37 = x39))) 68 rfl rfl hb40) (o_call Try.call15 (argCons rfl argNil) _) rfl (h.mono ?_)
          rintro _ w41 ⟨x_a42, x_n43, x_c44, rfl, h⟩
          refine WL_val (gdY (b := (decide (x37 = x39))) 68 rfl rfl hb40) ((o_move (v := .pointer x19) rfl) _) rfl ?_
          refine WL_call (gdY (b := (decide (x37 = x39))) 68 rfl rfl hb40) (o_call Try.call15 (argCons rfl argNil) _) rfl (h.mono ?_)
          rintro _ w45 ⟨x_a46, x_n47, x_c48, rfl, h⟩
          refine WL_call (gdY (b := (decide (x37 = x39))) 68 rfl rfl hb40) (o_call Try.call14 (argCons rfl (argCons rfl argNil)) _) rfl (h.mono ?_)
          rintro _ w49 ⟨x50, rfl, h⟩
          refine WL_val gd0 ((o_pickT (v := .bool x50) rfl hb40 rfl) _) rfl ?_
          refine WL_val gd0 ((o_move (v := .bool x50) rfl) _) rfl ?_
          refine bsplit x50 (fun hb51 => ?_) (fun hb51 => ?_)
          · rw [if_pos hb51] at h
            refine WL_call (gdY (b := x50) 75 rfl rfl hb51) (o_call Try.call10 argNil _) rfl (h.mono ?_)
            rintro _ w52 ⟨x53, rfl, h⟩
            refine WL_val gd0 ((o_pickT (v := .bool x53) rfl hb51 rfl) _) rfl ?_
            refine WL_val gd0 ((o_assign (v := .bool x53) rfl) _) rfl ?_
            refine WL_nil ?_
            refine nrm ?_
            refine WC_ret ?_
            refine rtE ?_
            exact gv1 rfl rfl h
          · rw [if_neg (neT hb51)] at h
            refine WL_skip (gdN (b := x50) 75 rfl rfl hb51) rfl ?_
            refine WL_val gd0 ((o_pickF (v := .bool false) rfl hb51 rfl) _) rfl ?_
            refine WL_val gd0 ((o_assign (v := .bool false) rfl) _) rfl ?_
            refine WL_nil ?_
            refine nrm ?_
            refine WC_ret ?_
            refine rtE ?_
            exact gv1 rfl rfl h
        · rw [if_neg (of_decide_eq_false hb40)] at h
          refine WL_skip (gdN (b := (decide (x37 = x39))) 68 rfl rfl hb40) rfl ?_
          refine WL_skip (gdN (b := (decide (x37 = x39))) 68 rfl rfl hb40) rfl ?_
          refine WL_skip (gdN (b := (decide (x37 = x39))) 68 rfl rfl hb40) rfl ?_
          refine WL_skip (gdN (b := (decide (x37 = x39))) 68 rfl rfl hb40) rfl ?_
          refine WL_skip (gdN (b := (decide (x37 = x39))) 68 rfl rfl hb40) rfl ?_
          refine WL_val gd0 ((o_pickF (v := .bool false) rfl hb40 rfl) _) rfl ?_
          refine WL_val gd0 ((o_move (v := .bool false) rfl) _) rfl ?_
          refine WL_skip (gdN (b := false) 75 rfl rfl rfl) rfl ?_
          refine WL_val gd0 ((o_pickF (v := .bool false) rfl rfl rfl) _) rfl ?_
          refine WL_val gd0 ((o_assign (v := .bool false) rfl) _) rfl ?_
          refine WL_nil ?_
          refine nrm ?_
          refine WC_ret ?_
          refine rtE ?_
          exact gv1 rfl rfl h

def F6_j3 (r17 : Option Addr) (p19 : Addr) (i27 : Int) (w35 : World) (k : Value → World → Prop) (nx28 : Int → World → Prop) : Prop :=
  Does Try.prog 20 #[.pointer r17] w35.drew (fun v w36 => ∃ (x37 : Int), v = .int .i64 x37 ∧ Does Try.prog 25 #[.pointer (some p19)] w36 (fun v w38 => ∃ (x39 : Int), v = .int .i64 x39 ∧ if x37 ≠ x39 then
  k (.bool false) w38
else
  ∃ (x41 : Bool), w38.cell? (p19.add 2) = some (.bool x41) ∧ Does Try.prog 21 #[.pointer r17] w38 (fun v w43 => ∃ (x44 : Bool), v = .bool x44 ∧ w43.cell? (p19.add 2) = some (.bool x41) ∧ if (!(x44 == x41)) = true then
    k (.bool false) w43
  else
    nx28 (IntKind.i64.wrap (i27 + 1)) w43)))
def F6_b2 (l_n5 : Nat) (l_a4 : Option Addr) (r17 : Option Addr) (p19 : Addr) (i27 : Int) (w28 : World) (k : Value → World → Prop) (nx28 : Int → World → Prop) : Prop :=
  if i27 < (l_n5 : Int) then
  ∃ (p49 : Addr), l_a4 = some p49 ∧ (0 : Int) ≤ i27 ∧ i27 < (l_n5 : Int) ∧ ∃ (x51 : Bool), w28.cell? (p49.add (i27.toNat * 2)) = some (.bool x51) ∧ if x51 = true then
    (0 : Int) ≤ i27 ∧ i27 < (l_n5 : Int) ∧ ∃ (x56 : Int), w28.cell? ((p49.add (i27.toNat * 2)).add 1) = some (.int .i64 x56) ∧ Does Try.prog 22 #[.pointer r17, .int .i64 x56] w28 (fun v w58 => v = .tuple #[] ∧ (0 : Int) ≤ i27 ∧ i27 < (l_n5 : Int) ∧ ∃ (x61 : Int), w58.cell? ((p49.add (i27.toNat * 2)).add 1) = some (.int .i64 x61) ∧ Does Try.prog 23 #[.pointer (some p19), .int .i64 x61] w58 (fun v w63 => v = .tuple #[] ∧ F6_j3 r17 p19 i27 w63 k nx28))
  else
    (0 : Int) ≤ i27 ∧ i27 < (l_n5 : Int) ∧ ∃ (x66 : Int), w28.drew.cell? ((p49.add (i27.toNat * 2)).add 1) = some (.int .i64 x66) ∧ (0 : Int) ≤ i27 ∧ i27 < (l_n5 : Int) ∧ ∃ (x70 : Int), w28.drew.cell? ((p49.add (i27.toNat * 2)).add 1) = some (.int .i64 x70) ∧ Does Try.prog 18 #[.pointer r17, .int .i64 x66] w28.drew (fun v w72 => ∃ (x73 : Int), v = .int .u64 x73 ∧ w72.cell? ((p49.add (i27.toNat * 2)).add 1) = some (.int .i64 x70) ∧ Does Try.prog 24 #[.pointer (some p19), .int .i64 x70] w72 (fun v w75 => ∃ (x76 : Int), v = .int .u64 x76 ∧ if x73 ≠ x76 then
      k (.bool false) w75
    else
      F6_j3 r17 p19 i27 w75 k nx28))
else
  Does Try.prog 10 #[] w28 (fun v w78 => ∃ (t79 : Bool), v = .bool t79 ∧ k (.bool t79) w78)
def F6_j1 (b_a1 : Option Addr) (b_n2 : Nat) (b_c3 : Nat) (l_n5 : Nat) (l_a4 : Option Addr) (t11 : Bool) (w12 : World) (k : Value → World → Prop) : Prop :=
  if t11 = true then
  Does Try.prog 10 #[] w12 (fun v w14 => ∃ (t15 : Bool), v = .bool t15 ∧ k (.bool t15) w14)
else
  Does Try.prog 17 #[.slice b_a1 b_n2 b_c3] w12 (fun v w16 => ∃ (r17 : Option Addr), v = .pointer r17 ∧ if (r17).isNone = true then
    k (.bool false) w16
  else
    New w16 47 [.slice none 0 0, .int .i64 0, .bool false] (fun p19 w20 => PutAll w20 p19 [.slice b_a1 b_n2 b_c3, .int .i64 0, .bool false] (fun w21 => LoopP (fun (s : Int) w' nx' => F6_b2 l_n5 l_a4 r17 p19 s w' k (fun x0 w => nx' x0 w)) 0 w21)))
/-- spacecraft spacecraftlaw02.BitsGets -/
def F6 (b_a1 : Option Addr) (b_n2 : Nat) (b_c3 : Nat) (l_a4 : Option Addr) (l_n5 : Nat) (l_c6 : Nat) (w7 : World) (k : Value → World → Prop) : Prop :=
  if 400 < (b_n2 : Int) then
  F6_j1 b_a1 b_n2 b_c3 l_n5 l_a4 true w7 k
else
  F6_j1 b_a1 b_n2 b_c3 l_n5 l_a4 (decide (200 < (l_n5 : Int))) w7 k
set_option maxRecDepth 100000 in
set_option maxHeartbeats 2000000 in
theorem w6 (b_a1 : Option Addr) (b_n2 : Nat) (b_c3 : Nat) (l_a4 : Option Addr) (l_n5 : Nat) (l_c6 : Nat) (w7 : World) (k : Value → World → Prop) (h : F6 b_a1 b_n2 b_c3 l_a4 l_n5 l_c6 w7 k) : Does Try.prog 6 #[.slice b_a1 b_n2 b_c3, .slice l_a4 l_n5 l_c6] w7 k := by
  refine enter 73 Try.func6 rfl rfl rfl ?_
  intro ρ hρ
  have e0 := hρ 0 _ rfl
  have e1 := hρ 1 _ rfl
  unfold F6 at h
  refine WC_seq ?_
  refine WC_region ?_
  refine WL_val gd0 ((o_assign (v := .bool false) rfl) _) rfl ?_
  refine WL_nil ?_
  refine nrm ?_
  refine WC_seq ?_
  refine WC_cut (fun ρ w' => ∃ (t11 : Bool), ρ 15 = .bool t11 ∧ ρ 0 = .slice b_a1 b_n2 b_c3 ∧ ρ 1 = .slice l_a4 l_n5 l_c6 ∧ F6_j1 b_a1 b_n2 b_c3 l_n5 l_a4 t11 w' k) ?_ ?_
  · refine WC_region ?_
    refine WL_val gd0 ((o_move (v := .slice b_a1 b_n2 b_c3) (by exact e0)) _) rfl ?_
    refine WL_val gd0 ((o_len Try.underlying27 rfl) _) rfl ?_
    refine WL_val gd0 ((o_gtr rfl rfl) _) rfl ?_
    refine WL_val gd0 ((o_move (v := .bool (decide (400 < (b_n2 : Int)))) rfl) _) rfl ?_
    refine bsplit (decide (400 < (b_n2 : Int))) (fun hb80 => ?_) (fun hb80 => ?_)
    · rw [if_pos (of_decide_eq_true hb80)] at h
      refine WL_skip (gdN (b := (decide (400 < (b_n2 : Int)))) 11 rfl rfl hb80) rfl ?_
      refine WL_skip (gdN (b := (decide (400 < (b_n2 : Int)))) 11 rfl rfl hb80) rfl ?_
      refine WL_skip (gdN (b := (decide (400 < (b_n2 : Int)))) 11 rfl rfl hb80) rfl ?_
      refine WL_val gd0 ((o_pickT (v := .bool true) rfl hb80 rfl) _) rfl ?_
      refine WL_nil ?_
      refine nrm ?_
      exact ⟨_, rfl, e0, e1, h⟩
    · rw [if_neg (of_decide_eq_false hb80)] at h
      refine WL_val (gdY (b := (decide (400 < (b_n2 : Int)))) 11 rfl rfl hb80) ((o_move (v := .slice l_a4 l_n5 l_c6) (by exact e1)) _) rfl ?_
      refine WL_val (gdY (b := (decide (400 < (b_n2 : Int)))) 11 rfl rfl hb80) ((o_len Try.underlying45 rfl) _) rfl ?_
      refine WL_val (gdY (b := (decide (400 < (b_n2 : Int)))) 11 rfl rfl hb80) ((o_gtr rfl rfl) _) rfl ?_
      refine WL_val gd0 ((o_pickF (v := .bool (decide (200 < (l_n5 : Int)))) rfl hb80 rfl) _) rfl ?_
      refine WL_nil ?_
      refine nrm ?_
      exact ⟨_, rfl, e0, e1, h⟩
  · rintro ρ w12 ⟨t11, e15_10, e0_8, e1_9, h⟩
    unfold F6_j1 at h
    refine WC_cond (t := t11) (by exact e15_10) (fun hb13 => ?_) (fun hb13 => ?_)
    · rw [if_pos hb13] at h
      refine WC_seq ?_
      refine WC_region ?_
      refine WL_call gd0 (o_call Try.call10 argNil _) rfl (h.mono ?_)
      rintro _ w14 ⟨t15, rfl, h⟩
      refine WL_val gd0 ((o_assign (v := .bool t15) rfl) _) rfl ?_
      refine WL_nil ?_
      refine nrm ?_
      refine WC_ret ?_
      refine rtT ?_
      refine rtE ?_
      exact gv1 rfl rfl h
    · rw [if_neg (neT hb13)] at h
      refine WC_skip ?_
      refine nrm ?_
      refine WC_seq ?_
      refine WC_region ?_
      refine WL_val gd0 ((o_move (v := .slice b_a1 b_n2 b_c3) (by exact e0_8)) _) rfl ?_
      refine WL_call gd0 (o_call Try.call17 (argCons rfl argNil) _) rfl (h.mono ?_)
      rintro _ w16 ⟨r17, rfl, h⟩
      refine WL_val gd0 ((o_assign (v := .pointer r17) rfl) _) rfl ?_
      refine WL_nil ?_
      refine nrm ?_
      refine WC_seq ?_
      refine WC_seq ?_
      refine WC_region ?_
      refine WL_val gd0 ((o_move (v := .pointer r17) rfl) _) rfl ?_
      refine WL_val gd0 ((o_eqlPtrNil Try.underlying38 rfl rfl) _) rfl ?_
      refine WL_nil ?_
      refine nrm ?_
      refine WC_cond (t := ((r17).isNone)) rfl (fun hb18 => ?_) (fun hb18 => ?_)
      · rw [if_pos hb18] at h
        refine WC_seq ?_
        refine WC_region ?_
        refine WL_val gd0 ((o_assign (v := .bool false) rfl) _) rfl ?_
        refine WL_nil ?_
        refine nrm ?_
        refine WC_ret ?_
        refine rtT ?_
        refine rtE ?_
        exact gv1 rfl rfl h
      · rw [if_neg (neT hb18)] at h
        refine WC_skip ?_
        refine nrm ?_
        refine WC_seq ?_
        refine WC_region ?_
        refine WL_val gd0 ((o_move (v := .slice b_a1 b_n2 b_c3) (by exact e0_8)) _) rfl ?_
        refine WL_val gd0 ((o_build (ps := [(0, .slice b_a1 b_n2 b_c3)]) (v := .agg #[.slice b_a1 b_n2 b_c3, .int .i64 0, .bool false]) (partCons rfl partNil) (fun w => by kernel_rfl)) _) rfl ?_
        have h := New.out h
        refine WL_val gd0 (o_alloc (z := .agg #[.slice none 0 0, .int .i64 0, .bool false]) (cs := [.slice none 0 0, .int .i64 0, .bool false]) Try.zeroValue47 rfl) rfl ?_
        generalize hp19 : fresh w16 = p19 at h ⊢
        generalize hw20 : push w16 47 [.slice none 0 0, .int .i64 0, .bool false] = w20 at h ⊢
        try dsimp only at h
        obtain ⟨c22, h⟩ := h
        refine WL_act gd0 (o_storeAgg (vs := [.slice b_a1 b_n2 b_c3, .int .i64 0, .bool false]) Try.sizeOf47 rfl rfl rfl c22) ?_
        generalize hw21 : setAll w20 p19 0 [.slice b_a1 b_n2 b_c3, .int .i64 0, .bool false] = w21 at h ⊢
        try dsimp only at h
        refine WL_nil ?_
        refine nrm ?_
        refine WC_seq ?_
        refine WC_seq ?_
        refine WC_region ?_
        refine WL_val gd0 ((o_assign (v := .int .i64 0) rfl) _) rfl ?_
        refine WL_nil ?_
        refine nrm ?_
        refine WC_block ?_
        obtain ⟨J28, ⟨n28, h0⟩, hr28⟩ := h
        refine WC_loop (fun n ρ w' => ∃ (i27 : Int), ρ 7 = .int .i64 i27 ∧ ρ 1 = .slice l_a4 l_n5 l_c6 ∧ ρ 5 = .pointer r17 ∧ ρ 6 = .pointer (some p19) ∧ J28 n i27 w') ⟨n28, _, rfl, e1_9, rfl, rfl, h0⟩ ?_
        rintro n28 ρ w28 ⟨i27, e7_26, e1_23, e5_24, e6_25, h⟩
        have h : F6_b2 l_n5 l_a4 r17 p19 i27 w28 k (fun x0 w => ∃ m, m < n28 ∧ J28 m x0 w) := hr28 n28 i27 w28 h
        unfold F6_b2 at h
        refine WC_seq ?_
        refine WC_seq ?_
        refine WC_region ?_
        refine WL_val gd0 ((o_move (v := .int .i64 i27) (by exact e7_26)) _) rfl ?_
        refine WL_val gd0 ((o_move (v := .slice l_a4 l_n5 l_c6) (by exact e1_23)) _) rfl ?_
        refine WL_val gd0 ((o_len Try.underlying45 rfl) _) rfl ?_
        refine WL_val gd0 ((o_lss rfl rfl) _) rfl ?_
        refine WL_nil ?_
        refine nrm ?_
        refine WC_cond (t := (decide (i27 < (l_n5 : Int)))) rfl (fun hb30 => ?_) (fun hb30 => ?_)
        · rw [if_pos (of_decide_eq_true hb30)] at h
          refine WC_skip ?_
          refine nrm ?_
          refine WC_seq ?_
          refine WC_block ?_
          refine WC_cut (fun ρ w' => ρ 1 = .slice l_a4 l_n5 l_c6 ∧ ρ 5 = .pointer r17 ∧ ρ 6 = .pointer (some p19) ∧ ρ 7 = .int .i64 i27 ∧ F6_j3 r17 p19 i27 w' k (fun x0 w => ∃ m, m < n28 ∧ J28 m x0 w)) ?_ ?_
          · refine WC_seq ?_
            refine WC_region ?_
            refine WL_val gd0 ((o_move (v := .slice l_a4 l_n5 l_c6) (by exact e1_23)) _) rfl ?_
            refine WL_val gd0 ((o_move (v := .int .i64 i27) (by exact e7_26)) _) rfl ?_
            obtain ⟨p49, q50, h⟩ := h
            obtain ⟨l47, u48, h⟩ := h
            refine WL_val gd0 ((o_indexAddr Try.underlying45 Try.sizeOf49 (by exact (congrArg (fun z => Value.slice z l_n5 l_c6) q50)) rfl l47 u48) _) rfl ?_
            refine WL_val gd0 ((o_fieldAddr0 Try.underlying49 rfl Try.sizeOf4 rfl rfl rfl) _) rfl ?_
            obtain ⟨x51, hc52, h⟩ := h
            refine WL_val gd0 (o_load Try.isAgg4 rfl hc52) rfl ?_
            refine WL_nil ?_
            refine nrm ?_
            refine WC_cond (t := x51) rfl (fun hb53 => ?_) (fun hb53 => ?_)
            · rw [if_pos hb53] at h
              refine WC_seq ?_
              refine WC_region ?_
              refine WL_val gd0 ((o_move (v := .pointer r17) (by exact e5_24)) _) rfl ?_
              refine WL_val gd0 ((o_move (v := .slice l_a4 l_n5 l_c6) (by exact e1_23)) _) rfl ?_
              refine WL_val gd0 ((o_move (v := .int .i64 i27) (by exact e7_26)) _) rfl ?_
              obtain ⟨l54, u55, h⟩ := h
              refine WL_val gd0 ((o_indexAddr Try.underlying45 Try.sizeOf49 (by exact (congrArg (fun z => Value.slice z l_n5 l_c6) q50)) rfl l54 u55) _) rfl ?_
              refine WL_val gd0 ((o_fieldAddr 1 Try.underlying49 rfl Try.sizeOf3 rfl rfl rfl) _) rfl ?_
              obtain ⟨x56, hc57, h⟩ := h
              refine WL_val gd0 (o_load Try.isAgg3 rfl hc57) rfl ?_
              refine WL_call gd0 (o_call Try.call22 (argCons rfl (argCons rfl argNil)) _) rfl (h.mono ?_)
              rintro _ w58 ⟨rfl, h⟩
              refine WL_nil ?_
              refine nrm ?_
              refine WC_region ?_
              refine WL_val gd0 ((o_move (v := .slice l_a4 l_n5 l_c6) (by exact e1_23)) _) rfl ?_
              refine WL_val gd0 ((o_move (v := .int .i64 i27) (by exact e7_26)) _) rfl ?_
              obtain ⟨l59, u60, h⟩ := h
              refine WL_val gd0 ((o_indexAddr Try.underlying45 Try.sizeOf49 (by exact (congrArg (fun z => Value.slice z l_n5 l_c6) q50)) rfl l59 u60) _) rfl ?_
              refine WL_val gd0 ((o_fieldAddr 1 Try.underlying49 rfl Try.sizeOf3 rfl rfl rfl) _) rfl ?_
              obtain ⟨x61, hc62, h⟩ := h
              refine WL_val gd0 (o_load Try.isAgg3 rfl hc62) rfl ?_
              refine WL_call gd0 (o_call Try.call23 (argCons (by exact e6_25) (argCons rfl argNil)) _) rfl (h.mono ?_)
              rintro _ w63 ⟨rfl, h⟩
              refine WL_nil ?_
              refine nrm ?_
              exact ⟨e1_23, e5_24, e6_25, e7_26, h⟩
            · rw [if_neg (neT hb53)] at h
              refine WC_seq ?_
              refine WC_draws [(0, true), (1, true), (2, true), (3, true), (4, true), (5, true), (7, true), (8, true), (9, true), (10, true), (11, true), (6, false), (12, false), (13, true)] Try.mixed (by kernel_rfl) ?_
              refine WQ_val rfl gd0 (o_move (v := .pointer r17) (by exact e5_24)) rfl ?_
              refine WQ_val rfl gd0 (o_move (v := .slice l_a4 l_n5 l_c6) (by exact e1_23)) rfl ?_
              refine WQ_val rfl gd0 (o_move (v := .int .i64 i27) (by exact e7_26)) rfl ?_
              obtain ⟨l64, u65, h⟩ := h
              refine WQ_val rfl gd0 (o_indexAddr Try.underlying45 Try.sizeOf49 (by exact (congrArg (fun z => Value.slice z l_n5 l_c6) q50)) rfl l64 u65) rfl ?_
              refine WQ_val rfl gd0 (o_fieldAddr 1 Try.underlying49 rfl Try.sizeOf3 rfl rfl rfl) rfl ?_
              obtain ⟨x66, hc67, h⟩ := h
              refine WQ_look (fun w => w.cell? ((p49.add (i27.toNat * 2)).add 1) = some (.int .i64 x66)) rfl gd0 (fun w hc => (o_load Try.isAgg3 rfl hc)) hc67 rfl ?_
              refine WQ_val rfl gd0 (o_move (v := .slice l_a4 l_n5 l_c6) (by exact e1_23)) rfl ?_
              refine WQ_val rfl gd0 (o_move (v := .int .i64 i27) (by exact e7_26)) rfl ?_
              obtain ⟨l68, u69, h⟩ := h
              refine WQ_val rfl gd0 (o_indexAddr Try.underlying45 Try.sizeOf49 (by exact (congrArg (fun z => Value.slice z l_n5 l_c6) q50)) rfl l68 u69) rfl ?_
              refine WQ_val rfl gd0 (o_fieldAddr 1 Try.underlying49 rfl Try.sizeOf3 rfl rfl rfl) rfl ?_
              obtain ⟨x70, hc71, h⟩ := h
              refine WQ_look (fun w => w.cell? ((p49.add (i27.toNat * 2)).add 1) = some (.int .i64 x70)) rfl gd0 (fun w hc => (o_load Try.isAgg3 rfl hc)) hc71 rfl ?_
              refine WQ_call rfl gd0 (o_call Try.call18 (argCons rfl (argCons rfl argNil)) _) rfl (h.mono ?_)
              rintro _ w72 ⟨x73, rfl, hh74, h⟩
              refine ⟨⟨⟨trivial, depT (by kernel_rfl)⟩, fun _ => hh74⟩, ?_⟩
              refine WQ_call rfl gd0 (o_call Try.call24 (argCons (by exact e6_25) (argCons rfl argNil)) _) rfl (h.mono ?_)
              rintro _ w75 ⟨x76, rfl, h⟩
              refine ⟨⟨⟨trivial, depT (by kernel_rfl)⟩, depT (by kernel_rfl)⟩, ?_⟩
              refine WQ_val rfl gd0 (o_neq rfl rfl) rfl ?_
              refine WQ_nil ?_
              refine nrm ?_
              refine WC_cond (t := (decide (x73 ≠ x76))) rfl (fun hb77 => ?_) (fun hb77 => ?_)
              · rw [if_pos (of_decide_eq_true hb77)] at h
                refine WC_seq ?_
                refine WC_region ?_
                refine WL_val gd0 ((o_assign (v := .bool false) rfl) _) rfl ?_
                refine WL_nil ?_
                refine nrm ?_
                refine WC_ret ?_
                refine rtT ?_
                refine rtB ?_
                refine rtT ?_
                refine rtT ?_
                refine rtB ?_
                refine rtT ?_
                refine rtE ?_
                exact gv1 rfl rfl h
              · rw [if_neg (of_decide_eq_false hb77)] at h
                refine WC_skip ?_
                refine nrm ?_
                exact ⟨e1_23, e5_24, e6_25, e7_26, h⟩
          · rintro ρ w35 ⟨e1_31, e5_32, e6_33, e7_34, h⟩
            unfold F6_j3 at h
            refine WC_seq ?_
            refine WC_draws [(0, true), (1, false), (2, false), (3, true), (4, true), (5, true), (7, true), (8, true), (6, false), (9, true), (10, true)] Try.mixed (by kernel_rfl) ?_
            refine WQ_val rfl gd0 (o_move (v := .pointer r17) (by exact e5_32)) rfl ?_
            refine WQ_call rfl gd0 (o_call Try.call20 (argCons rfl argNil) _) rfl (h.mono ?_)
            rintro _ w36 ⟨x37, rfl, h⟩
            refine ⟨trivial, ?_⟩
            refine WQ_call rfl gd0 (o_call Try.call25 (argCons (by exact e6_33) argNil) _) rfl (h.mono ?_)
            rintro _ w38 ⟨x39, rfl, h⟩
            refine ⟨trivial, ?_⟩
            refine WQ_val rfl gd0 (o_neq rfl rfl) rfl ?_
            refine WQ_val rfl gd0 (o_move (v := .bool (decide (x37 ≠ x39))) rfl) rfl ?_
            refine bsplit (decide (x37 ≠ x39)) (fun hb40 => ?_) (fun hb40 => ?_)
            · rw [if_pos (of_decide_eq_true hb40)] at h
              refine WQ_skip rfl (gdN (b := (decide (x37 ≠ x39))) 65 rfl rfl hb40) rfl ?_
              refine WQ_skip rfl (gdN (b := (decide (x37 ≠ x39))) 65 rfl rfl hb40) rfl ?_
              refine WQ_skip rfl (gdN (b := (decide (x37 ≠ x39))) 65 rfl rfl hb40) rfl ?_
              refine WQ_passAct rfl (gdN (b := (decide (x37 ≠ x39))) 65 rfl rfl hb40) rfl (by exact trivial) ?_
              refine WQ_skip rfl (gdN (b := (decide (x37 ≠ x39))) 65 rfl rfl hb40) rfl ?_
              refine WQ_val rfl gd0 (o_pickT (v := .bool true) rfl hb40 rfl) rfl ?_
              refine WQ_nil ?_
              refine nrm ?_
              refine WC_cond (t := true) rfl (fun _ => ?_) (fun hx => by rw [(rfl : true = true)] at hx; cases hx)
              refine WC_seq ?_
              refine WC_region ?_
              refine WL_val gd0 ((o_assign (v := .bool false) rfl) _) rfl ?_
              refine WL_nil ?_
              refine nrm ?_
              refine WC_ret ?_
              refine rtB ?_
              refine rtT ?_
              refine rtT ?_
              refine rtB ?_
              refine rtT ?_
              refine rtE ?_
              exact gv1 rfl rfl h
            · rw [if_neg (of_decide_eq_false hb40)] at h
              refine WQ_val rfl (gdY (b := (decide (x37 ≠ x39))) 65 rfl rfl hb40) (o_move (v := .pointer r17) (by exact e5_32)) rfl ?_
              refine WQ_val rfl (gdY (b := (decide (x37 ≠ x39))) 65 rfl rfl hb40) (o_fieldAddr 2 Try.underlying47 rfl Try.sizeOf4 rfl rfl (by exact e6_33)) rfl ?_
              obtain ⟨x41, hc42, h⟩ := h
              refine WQ_look (fun w => w.cell? (p19.add 2) = some (.bool x41)) rfl (gdY (b := (decide (x37 ≠ x39))) 65 rfl rfl hb40) (fun w hc => (o_load Try.isAgg4 rfl hc)) hc42 rfl ?_
              refine WQ_call rfl (gdY (b := (decide (x37 ≠ x39))) 65 rfl rfl hb40) (o_call Try.call21 (argCons rfl argNil) _) rfl (h.mono ?_)
              rintro _ w43 ⟨x44, rfl, hh45, h⟩
              refine ⟨⟨trivial, fun _ => hh45⟩, ?_⟩
              refine WQ_val rfl (gdY (b := (decide (x37 ≠ x39))) 65 rfl rfl hb40) (o_neqBool Try.underlying4 rfl rfl) rfl ?_
              refine WQ_val rfl gd0 (o_pickF (v := .bool (!(x44 == x41))) rfl hb40 rfl) rfl ?_
              refine WQ_nil ?_
              refine nrm ?_
              refine WC_cond (t := (!(x44 == x41))) rfl (fun hb46 => ?_) (fun hb46 => ?_)
              · rw [if_pos hb46] at h
                refine WC_seq ?_
                refine WC_region ?_
                refine WL_val gd0 ((o_assign (v := .bool false) rfl) _) rfl ?_
                refine WL_nil ?_
                refine nrm ?_
                refine WC_ret ?_
                refine rtB ?_
                refine rtT ?_
                refine rtT ?_
                refine rtB ?_
                refine rtT ?_
                refine rtE ?_
                exact gv1 rfl rfl h
              · rw [if_neg (neT hb46)] at h
                refine WC_skip ?_
                refine nrmB ?_
                refine nrm ?_
                refine WC_region ?_
                refine WL_val gd0 ((o_move (v := .int .i64 i27) (by exact e7_34)) _) rfl ?_
                refine WL_val gd0 ((o_add rfl rfl) _) rfl ?_
                refine WL_val gd0 ((o_assign (v := .int .i64 (IntKind.i64.wrap (i27 + 1))) rfl) _) rfl ?_
                refine WL_nil ?_
                refine nrm ?_
                obtain ⟨m29, hm29, h⟩ := h
                exact ⟨m29, hm29, _, rfl, e1_31, e5_32, e6_33, h⟩
        · rw [if_neg (of_decide_eq_false hb30)] at h
          refine WC_exit ?_
          refine exT ?_
          refine exT ?_
          refine exB ?_
          refine nrm ?_
          refine WC_seq ?_
          refine WC_region ?_
          refine WL_call gd0 (o_call Try.call10 argNil _) rfl (h.mono ?_)
          rintro _ w78 ⟨t79, rfl, h⟩
          refine WL_val gd0 ((o_assign (v := .bool t79) rfl) _) rfl ?_
          refine WL_nil ?_
          refine nrm ?_
          refine WC_ret ?_
          refine rtE ?_
          exact gv1 rfl rfl h

/-- spacecraft spacecraftlaw02.BitsNone -/
def F7 (n1 : Int) (width2 : Int) (w3 : World) (k : Value → World → Prop) : Prop :=
  New w3 53 [.bool false, .slice none 0 0, .int .i64 0] (fun p4 w5 => New w5 55 [.bool false, .slice none 0 0, .int .i64 0, .bool false] (fun p6 w7 => Does Try.prog 22 #[.pointer none, .int .i64 width2] w7 (fun v w8 => v = .tuple #[] ∧ Does Try.prog 22 #[.pointer (some p6), .int .i64 width2] w8 (fun v w9 => v = .tuple #[] ∧ Does Try.prog 11 #[.pointer none, .int .u64 n1, .int .i64 width2] w9 (fun v w10 => ∃ (x11 : Option Addr), v = .pointer x11 ∧ if (!(x11).isNone) = true then
  k (.bool false) w10
else
  Does Try.prog 11 #[.pointer (some p4), .int .u64 n1, .int .i64 width2] w10 (fun v w13 => ∃ (x14 : Option Addr), v = .pointer x14 ∧ if (!(x14).isNone) = true then
    k (.bool false) w13
  else
    Does Try.prog 13 #[.pointer none] w13 (fun v w16 => ∃ (x17 : Int), v = .int .i64 x17 ∧ Does Try.prog 13 #[.pointer (some p4)] w16 (fun v w18 => ∃ (x19 : Int), v = .int .i64 x19 ∧ Does Try.prog 15 #[.pointer none] w18 (fun v w20 => ∃ (x_a21 : Option Addr) (x_n22 x_c23 : Nat), v = .slice x_a21 x_n22 x_c23 ∧ Does Try.prog 15 #[.pointer (some p4)] w20 (fun v w24 => ∃ (x_a25 : Option Addr) (x_n26 x_c27 : Nat), v = .slice x_a25 x_n26 x_c27 ∧ if (IntKind.i64.wrap ((IntKind.i64.wrap ((IntKind.i64.wrap (x17 + x19)) + (x_n22 : Int))) + (x_n26 : Int))) ≠ 0 then
      k (.bool false) w24
    else
      Does Try.prog 18 #[.pointer none, .int .i64 width2] w24 (fun v w29 => ∃ (x30 : Int), v = .int .u64 x30 ∧ if x30 = 0 then
        Does Try.prog 18 #[.pointer (some p6), .int .i64 width2] w29 (fun v w32 => ∃ (x33 : Int), v = .int .u64 x33 ∧ if x33 = 0 then
          Does Try.prog 20 #[.pointer none] w32 (fun v w35 => ∃ (x36 : Int), v = .int .i64 x36 ∧ Does Try.prog 20 #[.pointer (some p6)] w35 (fun v w37 => ∃ (x38 : Int), v = .int .i64 x38 ∧ if (IntKind.i64.wrap (x36 + x38)) = 0 then
            Does Try.prog 21 #[.pointer none] w37 (fun v w40 => ∃ (x41 : Bool), v = .bool x41 ∧ if (!x41) = true then
              Does Try.prog 21 #[.pointer (some p6)] w40 (fun v w43 => ∃ (x44 : Bool), v = .bool x44 ∧ if (!x44) = true then
                Does Try.prog 10 #[] w43 (fun v w46 => ∃ (x47 : Bool), v = .bool x47 ∧ k (.bool x47) w46)
              else
                k (.bool false) w43)
            else
              k (.bool false) w40)
          else
            k (.bool false) w37))
        else
          k (.bool false) w32)
      else
        k (.bool false) w29)))))))))))
set_option maxRecDepth 100000 in
set_option maxHeartbeats 2000000 in
theorem w7 (n1 : Int) (width2 : Int) (w3 : World) (k : Value → World → Prop) (h : F7 n1 width2 w3 k) : Does Try.prog 7 #[.int .u64 n1, .int .i64 width2] w3 k := by
  refine enter 67 Try.func7 rfl rfl rfl ?_
  intro ρ hρ
  have e0 := hρ 0 _ rfl
  have e1 := hρ 1 _ rfl
  unfold F7 at h
  refine WC_seq ?_
  refine WC_region ?_
  refine WL_val gd0 ((o_assign (v := .bool false) rfl) _) rfl ?_
  refine WL_nil ?_
  refine nrm ?_
  refine WC_seq ?_
  refine WC_region ?_
  refine WL_val gd0 ((o_assign (v := .pointer none) rfl) _) rfl ?_
  refine WL_nil ?_
  refine nrm ?_
  refine WC_seq ?_
  refine WC_region ?_
  have h := New.out h
  refine WL_val gd0 (o_alloc (z := .agg #[.bool false, .slice none 0 0, .int .i64 0]) (cs := [.bool false, .slice none 0 0, .int .i64 0]) Try.zeroValue53 rfl) rfl ?_
  generalize hp4 : fresh w3 = p4 at h ⊢
  generalize hw5 : push w3 53 [.bool false, .slice none 0 0, .int .i64 0] = w5 at h ⊢
  try dsimp only at h
  refine WL_nil ?_
  refine nrm ?_
  refine WC_seq ?_
  refine WC_region ?_
  refine WL_val gd0 ((o_assign (v := .pointer none) rfl) _) rfl ?_
  refine WL_nil ?_
  refine nrm ?_
  refine WC_seq ?_
  refine WC_region ?_
  have h := New.out h
  refine WL_val gd0 (o_alloc (z := .agg #[.bool false, .slice none 0 0, .int .i64 0, .bool false]) (cs := [.bool false, .slice none 0 0, .int .i64 0, .bool false]) Try.zeroValue55 rfl) rfl ?_
  generalize hp6 : fresh w5 = p6 at h ⊢
  generalize hw7 : push w5 55 [.bool false, .slice none 0 0, .int .i64 0, .bool false] = w7 at h ⊢
  try dsimp only at h
  refine WL_nil ?_
  refine nrm ?_
  refine WC_seq ?_
  refine WC_region ?_
  refine WL_val gd0 ((o_move (v := .pointer none) rfl) _) rfl ?_
  refine WL_val gd0 ((o_move (v := .int .i64 width2) (by exact e1)) _) rfl ?_
  refine WL_call gd0 (o_call Try.call22 (argCons rfl (argCons rfl argNil)) _) rfl (h.mono ?_)
  rintro _ w8 ⟨rfl, h⟩
  refine WL_nil ?_
  refine nrm ?_
  refine WC_seq ?_
  refine WC_region ?_
  refine WL_val gd0 ((o_move (v := .int .i64 width2) (by exact e1)) _) rfl ?_
  refine WL_call gd0 (o_call Try.call22 (argCons rfl (argCons rfl argNil)) _) rfl (h.mono ?_)
  rintro _ w9 ⟨rfl, h⟩
  refine WL_nil ?_
  refine nrm ?_
  refine WC_seq ?_
  refine WC_seq ?_
  refine WC_region ?_
  refine WL_val gd0 ((o_move (v := .pointer none) rfl) _) rfl ?_
  refine WL_val gd0 ((o_move (v := .int .u64 n1) (by exact e0)) _) rfl ?_
  refine WL_val gd0 ((o_move (v := .int .i64 width2) (by exact e1)) _) rfl ?_
  refine WL_call gd0 (o_call Try.call11 (argCons rfl (argCons rfl (argCons rfl argNil))) _) rfl (h.mono ?_)
  rintro _ w10 ⟨x11, rfl, h⟩
  refine WL_val gd0 ((o_neqPtrNil Try.underlying23 rfl rfl) _) rfl ?_
  refine WL_val gd0 ((o_move (v := .bool (!(x11).isNone)) rfl) _) rfl ?_
  refine bsplit (!(x11).isNone) (fun hb12 => ?_) (fun hb12 => ?_)
  · rw [if_pos hb12] at h
    refine WL_skip (gdN (b := (!(x11).isNone)) 19 rfl rfl hb12) rfl ?_
    refine WL_skip (gdN (b := (!(x11).isNone)) 19 rfl rfl hb12) rfl ?_
    refine WL_skip (gdN (b := (!(x11).isNone)) 19 rfl rfl hb12) rfl ?_
    refine WL_skip (gdN (b := (!(x11).isNone)) 19 rfl rfl hb12) rfl ?_
    refine WL_val gd0 ((o_pickT (v := .bool true) rfl hb12 rfl) _) rfl ?_
    refine WL_val gd0 ((o_move (v := .bool true) rfl) _) rfl ?_
    refine WL_skip (gdN (b := true) 25 rfl rfl rfl) rfl ?_
    refine WL_skip (gdN (b := true) 25 rfl rfl rfl) rfl ?_
    refine WL_skip (gdN (b := true) 25 rfl rfl rfl) rfl ?_
    refine WL_skip (gdN (b := true) 25 rfl rfl rfl) rfl ?_
    refine WL_skip (gdN (b := true) 25 rfl rfl rfl) rfl ?_
    refine WL_skip (gdN (b := true) 25 rfl rfl rfl) rfl ?_
    refine WL_skip (gdN (b := true) 25 rfl rfl rfl) rfl ?_
    refine WL_skip (gdN (b := true) 25 rfl rfl rfl) rfl ?_
    refine WL_skip (gdN (b := true) 25 rfl rfl rfl) rfl ?_
    refine WL_skip (gdN (b := true) 25 rfl rfl rfl) rfl ?_
    refine WL_skip (gdN (b := true) 25 rfl rfl rfl) rfl ?_
    refine WL_skip (gdN (b := true) 25 rfl rfl rfl) rfl ?_
    refine WL_val gd0 ((o_pickT (v := .bool true) rfl rfl rfl) _) rfl ?_
    refine WL_nil ?_
    refine nrm ?_
    refine WC_cond (t := true) rfl (fun _ => ?_) (fun hx => by rw [(rfl : true = true)] at hx; cases hx)
    refine WC_seq ?_
    refine WC_region ?_
    refine WL_val gd0 ((o_assign (v := .bool false) rfl) _) rfl ?_
    refine WL_nil ?_
    refine nrm ?_
    refine WC_ret ?_
    refine rtT ?_
    refine rtE ?_
    exact gv1 rfl rfl h
  · rw [if_neg (neT hb12)] at h
    refine WL_val (gdY (b := (!(x11).isNone)) 19 rfl rfl hb12) ((o_move (v := .int .u64 n1) (by exact e0)) _) rfl ?_
    refine WL_val (gdY (b := (!(x11).isNone)) 19 rfl rfl hb12) ((o_move (v := .int .i64 width2) (by exact e1)) _) rfl ?_
    refine WL_call (gdY (b := (!(x11).isNone)) 19 rfl rfl hb12) (o_call Try.call11 (argCons rfl (argCons rfl (argCons rfl argNil))) _) rfl (h.mono ?_)
    rintro _ w13 ⟨x14, rfl, h⟩
    refine WL_val (gdY (b := (!(x11).isNone)) 19 rfl rfl hb12) ((o_neqPtrNil Try.underlying23 rfl rfl) _) rfl ?_
    refine WL_val gd0 ((o_pickF (v := .bool (!(x14).isNone)) rfl hb12 rfl) _) rfl ?_
    refine WL_val gd0 ((o_move (v := .bool (!(x14).isNone)) rfl) _) rfl ?_
    refine bsplit (!(x14).isNone) (fun hb15 => ?_) (fun hb15 => ?_)
    · rw [if_pos hb15] at h
      refine WL_skip (gdN (b := (!(x14).isNone)) 25 rfl rfl hb15) rfl ?_
      refine WL_skip (gdN (b := (!(x14).isNone)) 25 rfl rfl hb15) rfl ?_
      refine WL_skip (gdN (b := (!(x14).isNone)) 25 rfl rfl hb15) rfl ?_
      refine WL_skip (gdN (b := (!(x14).isNone)) 25 rfl rfl hb15) rfl ?_
      refine WL_skip (gdN (b := (!(x14).isNone)) 25 rfl rfl hb15) rfl ?_
      refine WL_skip (gdN (b := (!(x14).isNone)) 25 rfl rfl hb15) rfl ?_
      refine WL_skip (gdN (b := (!(x14).isNone)) 25 rfl rfl hb15) rfl ?_
      refine WL_skip (gdN (b := (!(x14).isNone)) 25 rfl rfl hb15) rfl ?_
      refine WL_skip (gdN (b := (!(x14).isNone)) 25 rfl rfl hb15) rfl ?_
      refine WL_skip (gdN (b := (!(x14).isNone)) 25 rfl rfl hb15) rfl ?_
      refine WL_skip (gdN (b := (!(x14).isNone)) 25 rfl rfl hb15) rfl ?_
      refine WL_skip (gdN (b := (!(x14).isNone)) 25 rfl rfl hb15) rfl ?_
      refine WL_val gd0 ((o_pickT (v := .bool true) rfl hb15 rfl) _) rfl ?_
      refine WL_nil ?_
      refine nrm ?_
      refine WC_cond (t := true) rfl (fun _ => ?_) (fun hx => by rw [(rfl : true = true)] at hx; cases hx)
      refine WC_seq ?_
      refine WC_region ?_
      refine WL_val gd0 ((o_assign (v := .bool false) rfl) _) rfl ?_
      refine WL_nil ?_
      refine nrm ?_
      refine WC_ret ?_
      refine rtT ?_
      refine rtE ?_
      exact gv1 rfl rfl h
    · rw [if_neg (neT hb15)] at h
      refine WL_val (gdY (b := (!(x14).isNone)) 25 rfl rfl hb15) ((o_move (v := .pointer none) rfl) _) rfl ?_
      refine WL_call (gdY (b := (!(x14).isNone)) 25 rfl rfl hb15) (o_call Try.call13 (argCons rfl argNil) _) rfl (h.mono ?_)
      rintro _ w16 ⟨x17, rfl, h⟩
      refine WL_call (gdY (b := (!(x14).isNone)) 25 rfl rfl hb15) (o_call Try.call13 (argCons rfl argNil) _) rfl (h.mono ?_)
      rintro _ w18 ⟨x19, rfl, h⟩
      refine WL_val (gdY (b := (!(x14).isNone)) 25 rfl rfl hb15) ((o_add rfl rfl) _) rfl ?_
      refine WL_val (gdY (b := (!(x14).isNone)) 25 rfl rfl hb15) ((o_move (v := .pointer none) rfl) _) rfl ?_
      refine WL_call (gdY (b := (!(x14).isNone)) 25 rfl rfl hb15) (o_call Try.call15 (argCons rfl argNil) _) rfl (h.mono ?_)
      rintro _ w20 ⟨x_a21, x_n22, x_c23, rfl, h⟩
      refine WL_val (gdY (b := (!(x14).isNone)) 25 rfl rfl hb15) ((o_len Try.underlying27 rfl) _) rfl ?_
      refine WL_val (gdY (b := (!(x14).isNone)) 25 rfl rfl hb15) ((o_add rfl rfl) _) rfl ?_
      refine WL_call (gdY (b := (!(x14).isNone)) 25 rfl rfl hb15) (o_call Try.call15 (argCons rfl argNil) _) rfl (h.mono ?_)
      rintro _ w24 ⟨x_a25, x_n26, x_c27, rfl, h⟩
      refine WL_val (gdY (b := (!(x14).isNone)) 25 rfl rfl hb15) ((o_len Try.underlying27 rfl) _) rfl ?_
      refine WL_val (gdY (b := (!(x14).isNone)) 25 rfl rfl hb15) ((o_add rfl rfl) _) rfl ?_
      refine WL_val (gdY (b := (!(x14).isNone)) 25 rfl rfl hb15) ((o_neq rfl rfl) _) rfl ?_
      refine WL_val gd0 ((o_pickF (v := .bool (decide ((IntKind.i64.wrap ((IntKind.i64.wrap ((IntKind.i64.wrap (x17 + x19)) + (x_n22 : Int))) + (x_n26 : Int))) ≠ 0))) rfl hb15 rfl) _) rfl ?_
      refine WL_nil ?_
      refine nrm ?_
      refine WC_cond (t := (decide ((IntKind.i64.wrap ((IntKind.i64.wrap ((IntKind.i64.wrap (x17 + x19)) + (x_n22 : Int))) + (x_n26 : Int))) ≠ 0))) rfl (fun hb28 => ?_) (fun hb28 => ?_)
      · rw [if_pos (of_decide_eq_true hb28)] at h
        refine WC_seq ?_
        refine WC_region ?_
        refine WL_val gd0 ((o_assign (v := .bool false) rfl) _) rfl ?_
        refine WL_nil ?_
        refine nrm ?_
        refine WC_ret ?_
        refine rtT ?_
        refine rtE ?_
        exact gv1 rfl rfl h
      · rw [if_neg (of_decide_eq_false hb28)] at h
        refine WC_skip ?_
        refine nrm ?_
        refine WC_seq ?_
        refine WC_region ?_
        refine WL_val gd0 ((o_move (v := .pointer none) rfl) _) rfl ?_
        refine WL_val gd0 ((o_move (v := .int .i64 width2) (by exact e1)) _) rfl ?_
        refine WL_call gd0 (o_call Try.call18 (argCons rfl (argCons rfl argNil)) _) rfl (h.mono ?_)
        rintro _ w29 ⟨x30, rfl, h⟩
        refine WL_val gd0 ((o_eql rfl rfl) _) rfl ?_
        refine WL_val gd0 ((o_move (v := .bool (decide (x30 = 0))) rfl) _) rfl ?_
        refine bsplit (decide (x30 = 0)) (fun hb31 => ?_) (fun hb31 => ?_)
        · rw [if_pos (of_decide_eq_true hb31)] at h
          refine WL_val (gdY (b := (decide (x30 = 0))) 43 rfl rfl hb31) ((o_move (v := .int .i64 width2) (by exact e1)) _) rfl ?_
          refine WL_call (gdY (b := (decide (x30 = 0))) 43 rfl rfl hb31) (o_call Try.call18 (argCons rfl (argCons rfl argNil)) _) rfl (h.mono ?_)
          rintro _ w32 ⟨x33, rfl, h⟩
          refine WL_val (gdY (b := (decide (x30 = 0))) 43 rfl rfl hb31) ((o_eql rfl rfl) _) rfl ?_
          refine WL_val gd0 ((o_pickT (v := .bool (decide (x33 = 0))) rfl hb31 rfl) _) rfl ?_
          refine WL_val gd0 ((o_move (v := .bool (decide (x33 = 0))) rfl) _) rfl ?_
          refine bsplit (decide (x33 = 0)) (fun hb34 => ?_) (fun hb34 => ?_)
          · rw [if_pos (of_decide_eq_true hb34)] at h
            refine WL_val (gdY (b := (decide (x33 = 0))) 48 rfl rfl hb34) ((o_move (v := .pointer none) rfl) _) rfl ?_
            refine WL_call (gdY (b := (decide (x33 = 0))) 48 rfl rfl hb34) (o_call Try.call20 (argCons rfl argNil) _) rfl (h.mono ?_)
            rintro _ w35 ⟨x36, rfl, h⟩
            refine WL_call (gdY (b := (decide (x33 = 0))) 48 rfl rfl hb34) (o_call Try.call20 (argCons rfl argNil) _) rfl (h.mono ?_)
            rintro _ w37 ⟨x38, rfl, h⟩
            refine WL_val (gdY (b := (decide (x33 = 0))) 48 rfl rfl hb34) ((o_add rfl rfl) _) rfl ?_
            refine WL_val (gdY (b := (decide (x33 = 0))) 48 rfl rfl hb34) ((o_eql rfl rfl) _) rfl ?_
            refine WL_val gd0 ((o_pickT (v := .bool (decide ((IntKind.i64.wrap (x36 + x38)) = 0))) rfl hb34 rfl) _) rfl ?_
            refine WL_val gd0 ((o_move (v := .bool (decide ((IntKind.i64.wrap (x36 + x38)) = 0))) rfl) _) rfl ?_
            refine bsplit (decide ((IntKind.i64.wrap (x36 + x38)) = 0)) (fun hb39 => ?_) (fun hb39 => ?_)
            · rw [if_pos (of_decide_eq_true hb39)] at h
              refine WL_val (gdY (b := (decide ((IntKind.i64.wrap (x36 + x38)) = 0))) 55 rfl rfl hb39) ((o_move (v := .pointer none) rfl) _) rfl ?_
              refine WL_call (gdY (b := (decide ((IntKind.i64.wrap (x36 + x38)) = 0))) 55 rfl rfl hb39) (o_call Try.call21 (argCons rfl argNil) _) rfl (h.mono ?_)
              rintro _ w40 ⟨x41, rfl, h⟩
              refine WL_val (gdY (b := (decide ((IntKind.i64.wrap (x36 + x38)) = 0))) 55 rfl rfl hb39) ((o_not rfl) _) rfl ?_
              refine WL_val gd0 ((o_pickT (v := .bool (!x41)) rfl hb39 rfl) _) rfl ?_
              refine WL_val gd0 ((o_move (v := .bool (!x41)) rfl) _) rfl ?_
              refine bsplit (!x41) (fun hb42 => ?_) (fun hb42 => ?_)
              · rw [if_pos hb42] at h
                refine WL_call (gdY (b := (!x41)) 60 rfl rfl hb42) (o_call Try.call21 (argCons rfl argNil) _) rfl (h.mono ?_)
                rintro _ w43 ⟨x44, rfl, h⟩
                refine WL_val (gdY (b := (!x41)) 60 rfl rfl hb42) ((o_not rfl) _) rfl ?_
                refine WL_val gd0 ((o_pickT (v := .bool (!x44)) rfl hb42 rfl) _) rfl ?_
                refine WL_val gd0 ((o_move (v := .bool (!x44)) rfl) _) rfl ?_
                refine bsplit (!x44) (fun hb45 => ?_) (fun hb45 => ?_)
                · rw [if_pos hb45] at h
                  refine WL_call (gdY (b := (!x44)) 64 rfl rfl hb45) (o_call Try.call10 argNil _) rfl (h.mono ?_)
                  rintro _ w46 ⟨x47, rfl, h⟩
                  refine WL_val gd0 ((o_pickT (v := .bool x47) rfl hb45 rfl) _) rfl ?_
                  refine WL_val gd0 ((o_assign (v := .bool x47) rfl) _) rfl ?_
                  refine WL_nil ?_
                  refine nrm ?_
                  refine WC_ret ?_
                  refine rtE ?_
                  exact gv1 rfl rfl h
                · rw [if_neg (neT hb45)] at h
                  refine WL_skip (gdN (b := (!x44)) 64 rfl rfl hb45) rfl ?_
                  refine WL_val gd0 ((o_pickF (v := .bool false) rfl hb45 rfl) _) rfl ?_
                  refine WL_val gd0 ((o_assign (v := .bool false) rfl) _) rfl ?_
                  refine WL_nil ?_
                  refine nrm ?_
                  refine WC_ret ?_
                  refine rtE ?_
                  exact gv1 rfl rfl h
              · rw [if_neg (neT hb42)] at h
                refine WL_skip (gdN (b := (!x41)) 60 rfl rfl hb42) rfl ?_
                refine WL_skip (gdN (b := (!x41)) 60 rfl rfl hb42) rfl ?_
                refine WL_val gd0 ((o_pickF (v := .bool false) rfl hb42 rfl) _) rfl ?_
                refine WL_val gd0 ((o_move (v := .bool false) rfl) _) rfl ?_
                refine WL_skip (gdN (b := false) 64 rfl rfl rfl) rfl ?_
                refine WL_val gd0 ((o_pickF (v := .bool false) rfl rfl rfl) _) rfl ?_
                refine WL_val gd0 ((o_assign (v := .bool false) rfl) _) rfl ?_
                refine WL_nil ?_
                refine nrm ?_
                refine WC_ret ?_
                refine rtE ?_
                exact gv1 rfl rfl h
            · rw [if_neg (of_decide_eq_false hb39)] at h
              refine WL_skip (gdN (b := (decide ((IntKind.i64.wrap (x36 + x38)) = 0))) 55 rfl rfl hb39) rfl ?_
              refine WL_skip (gdN (b := (decide ((IntKind.i64.wrap (x36 + x38)) = 0))) 55 rfl rfl hb39) rfl ?_
              refine WL_skip (gdN (b := (decide ((IntKind.i64.wrap (x36 + x38)) = 0))) 55 rfl rfl hb39) rfl ?_
              refine WL_val gd0 ((o_pickF (v := .bool false) rfl hb39 rfl) _) rfl ?_
              refine WL_val gd0 ((o_move (v := .bool false) rfl) _) rfl ?_
              refine WL_skip (gdN (b := false) 60 rfl rfl rfl) rfl ?_
              refine WL_skip (gdN (b := false) 60 rfl rfl rfl) rfl ?_
              refine WL_val gd0 ((o_pickF (v := .bool false) rfl rfl rfl) _) rfl ?_
              refine WL_val gd0 ((o_move (v := .bool false) rfl) _) rfl ?_
              refine WL_skip (gdN (b := false) 64 rfl rfl rfl) rfl ?_
              refine WL_val gd0 ((o_pickF (v := .bool false) rfl rfl rfl) _) rfl ?_
              refine WL_val gd0 ((o_assign (v := .bool false) rfl) _) rfl ?_
              refine WL_nil ?_
              refine nrm ?_
              refine WC_ret ?_
              refine rtE ?_
              exact gv1 rfl rfl h
          · rw [if_neg (of_decide_eq_false hb34)] at h
            refine WL_skip (gdN (b := (decide (x33 = 0))) 48 rfl rfl hb34) rfl ?_
            refine WL_skip (gdN (b := (decide (x33 = 0))) 48 rfl rfl hb34) rfl ?_
            refine WL_skip (gdN (b := (decide (x33 = 0))) 48 rfl rfl hb34) rfl ?_
            refine WL_skip (gdN (b := (decide (x33 = 0))) 48 rfl rfl hb34) rfl ?_
            refine WL_skip (gdN (b := (decide (x33 = 0))) 48 rfl rfl hb34) rfl ?_
            refine WL_val gd0 ((o_pickF (v := .bool false) rfl hb34 rfl) _) rfl ?_
            refine WL_val gd0 ((o_move (v := .bool false) rfl) _) rfl ?_
            refine WL_skip (gdN (b := false) 55 rfl rfl rfl) rfl ?_
            refine WL_skip (gdN (b := false) 55 rfl rfl rfl) rfl ?_
            refine WL_skip (gdN (b := false) 55 rfl rfl rfl) rfl ?_
            refine WL_val gd0 ((o_pickF (v := .bool false) rfl rfl rfl) _) rfl ?_
            refine WL_val gd0 ((o_move (v := .bool false) rfl) _) rfl ?_
            refine WL_skip (gdN (b := false) 60 rfl rfl rfl) rfl ?_
            refine WL_skip (gdN (b := false) 60 rfl rfl rfl) rfl ?_
            refine WL_val gd0 ((o_pickF (v := .bool false) rfl rfl rfl) _) rfl ?_
            refine WL_val gd0 ((o_move (v := .bool false) rfl) _) rfl ?_
            refine WL_skip (gdN (b := false) 64 rfl rfl rfl) rfl ?_
            refine WL_val gd0 ((o_pickF (v := .bool false) rfl rfl rfl) _) rfl ?_
            refine WL_val gd0 ((o_assign (v := .bool false) rfl) _) rfl ?_
            refine WL_nil ?_
            refine nrm ?_
            refine WC_ret ?_
            refine rtE ?_
            exact gv1 rfl rfl h
        · rw [if_neg (of_decide_eq_false hb31)] at h
          refine WL_skip (gdN (b := (decide (x30 = 0))) 43 rfl rfl hb31) rfl ?_
          refine WL_skip (gdN (b := (decide (x30 = 0))) 43 rfl rfl hb31) rfl ?_
          refine WL_skip (gdN (b := (decide (x30 = 0))) 43 rfl rfl hb31) rfl ?_
          refine WL_val gd0 ((o_pickF (v := .bool false) rfl hb31 rfl) _) rfl ?_
          refine WL_val gd0 ((o_move (v := .bool false) rfl) _) rfl ?_
          refine WL_skip (gdN (b := false) 48 rfl rfl rfl) rfl ?_
          refine WL_skip (gdN (b := false) 48 rfl rfl rfl) rfl ?_
          refine WL_skip (gdN (b := false) 48 rfl rfl rfl) rfl ?_
          refine WL_skip (gdN (b := false) 48 rfl rfl rfl) rfl ?_
          refine WL_skip (gdN (b := false) 48 rfl rfl rfl) rfl ?_
          refine WL_val gd0 ((o_pickF (v := .bool false) rfl rfl rfl) _) rfl ?_
          refine WL_val gd0 ((o_move (v := .bool false) rfl) _) rfl ?_
          refine WL_skip (gdN (b := false) 55 rfl rfl rfl) rfl ?_
          refine WL_skip (gdN (b := false) 55 rfl rfl rfl) rfl ?_
          refine WL_skip (gdN (b := false) 55 rfl rfl rfl) rfl ?_
          refine WL_val gd0 ((o_pickF (v := .bool false) rfl rfl rfl) _) rfl ?_
          refine WL_val gd0 ((o_move (v := .bool false) rfl) _) rfl ?_
          refine WL_skip (gdN (b := false) 60 rfl rfl rfl) rfl ?_
          refine WL_skip (gdN (b := false) 60 rfl rfl rfl) rfl ?_
          refine WL_val gd0 ((o_pickF (v := .bool false) rfl rfl rfl) _) rfl ?_
          refine WL_val gd0 ((o_move (v := .bool false) rfl) _) rfl ?_
          refine WL_skip (gdN (b := false) 64 rfl rfl rfl) rfl ?_
          refine WL_val gd0 ((o_pickF (v := .bool false) rfl rfl rfl) _) rfl ?_
          refine WL_val gd0 ((o_assign (v := .bool false) rfl) _) rfl ?_
          refine WL_nil ?_
          refine nrm ?_
          refine WC_ret ?_
          refine rtE ?_
          exact gv1 rfl rfl h

/-- spacecraft bits.NewWriter -/
def F8 (w1 : World) (k : Value → World → Prop) : Prop :=
  New w1 53 [.bool true, .slice none 0 0, .int .i64 0] (fun p2 w3 => k (.pointer (some p2)) w3)
set_option maxRecDepth 100000 in
set_option maxHeartbeats 2000000 in
theorem w8 (w1 : World) (k : Value → World → Prop) (h : F8 w1 k) : Does Try.prog 8 #[] w1 k := by
  refine enter 3 Try.func8 rfl rfl rfl ?_
  intro ρ hρ
  unfold F8 at h
  refine WC_seq ?_
  refine WC_region ?_
  refine WL_val gd0 ((o_assign (v := .pointer none) rfl) _) rfl ?_
  refine WL_nil ?_
  refine nrm ?_
  refine WC_seq ?_
  refine WC_region ?_
  refine WL_val gd0 ((o_build (ps := [(0, .bool true)]) (v := .agg #[.bool true, .slice none 0 0, .int .i64 0]) (partCons rfl partNil) (fun w => by kernel_rfl)) _) rfl ?_
  have h := New.out h
  refine WL_val gd0 (o_box (v := .agg #[.bool true, .slice none 0 0, .int .i64 0]) (cs := [.bool true, .slice none 0 0, .int .i64 0]) rfl rfl) rfl ?_
  generalize hp2 : fresh w1 = p2 at h ⊢
  generalize hw3 : push w1 53 [.bool true, .slice none 0 0, .int .i64 0] = w3 at h ⊢
  try dsimp only at h
  refine WL_val gd0 ((o_assign (v := .pointer (some p2)) rfl) _) rfl ?_
  refine WL_nil ?_
  refine nrm ?_
  refine WC_ret ?_
  refine rtE ?_
  exact gv1 rfl rfl h

/-- spacecraft spacecraftlaw02.few -/
def F9 (l_a1 : Option Addr) (l_n2 : Nat) (l_c3 : Nat) (w4 : World) (k : Value → World → Prop) : Prop :=
  k (.bool (decide ((l_n2 : Int) ≤ 100))) w4
set_option maxRecDepth 100000 in
set_option maxHeartbeats 2000000 in
theorem w9 (l_a1 : Option Addr) (l_n2 : Nat) (l_c3 : Nat) (w4 : World) (k : Value → World → Prop) (h : F9 l_a1 l_n2 l_c3 w4 k) : Does Try.prog 9 #[.slice l_a1 l_n2 l_c3] w4 k := by
  refine enter 6 Try.func9 rfl rfl rfl ?_
  intro ρ hρ
  have e0 := hρ 0 _ rfl
  unfold F9 at h
  refine WC_seq ?_
  refine WC_region ?_
  refine WL_val gd0 ((o_assign (v := .bool false) rfl) _) rfl ?_
  refine WL_nil ?_
  refine nrm ?_
  refine WC_seq ?_
  refine WC_region ?_
  refine WL_val gd0 ((o_move (v := .slice l_a1 l_n2 l_c3) (by exact e0)) _) rfl ?_
  refine WL_val gd0 ((o_len Try.underlying22 rfl) _) rfl ?_
  refine WL_val gd0 ((o_leq rfl rfl) _) rfl ?_
  refine WL_val gd0 ((o_assign (v := .bool (decide ((l_n2 : Int) ≤ 100))) rfl) _) rfl ?_
  refine WL_nil ?_
  refine nrm ?_
  refine WC_ret ?_
  refine rtE ?_
  exact gv1 rfl rfl h

/-- spacecraft spacecraftlaw02.lives -/
def F10 (w1 : World) (k : Value → World → Prop) : Prop :=
  Does Try.prog 8 #[] w1 (fun v w2 => ∃ (w3 : Option Addr), v = .pointer w3 ∧ if (w3).isNone = true then
  k (.bool false) w2
else
  Does Try.prog 11 #[.pointer w3, .int .u64 5, .int .i64 3] w2 (fun v w5 => ∃ (x6 : Option Addr), v = .pointer x6 ∧ ∃ (p7 : Addr), x6 = some p7 ∧ ∃ (p9 : Addr), w3 = some p9 ∧ p7.block = p9.block ∧ Does Try.prog 11 #[.pointer w3, .int .u64 1, .int .i64 2] w5 (fun v w12 => ∃ (x13 : Option Addr), v = .pointer x13 ∧ Does Try.prog 11 #[.pointer w3, .int .u64 255, .int .i64 4] w12 (fun v w14 => ∃ (x15 : Option Addr), v = .pointer x15 ∧ Does Try.prog 11 #[.pointer w3, .int .u64 1, .int .i64 65] w14 (fun v w16 => ∃ (x17 : Option Addr), v = .pointer x17 ∧ Does Try.prog 11 #[.pointer w3, .int .u64 1, .int .i64 (-1)] w16 (fun v w18 => ∃ (x19 : Option Addr), v = .pointer x19 ∧ New w18 5 [.int .u8 175] (fun p20 w21 => Does Try.prog 17 #[.slice (some p20) 1 1] w21 (fun v w22 => ∃ (r23 : Option Addr), v = .pointer r23 ∧ if (r23).isNone = true then
    k (.bool false) w22
  else
    Does Try.prog 18 #[.pointer r23, .int .i64 3] w22 (fun v w25 => ∃ (x26 : Int), v = .int .u64 x26 ∧ Does Try.prog 18 #[.pointer r23, .int .i64 2] w25 (fun v w27 => ∃ (x28 : Int), v = .int .u64 x28 ∧ Does Try.prog 20 #[.pointer r23] w27 (fun v w29 => ∃ (x30 : Int), v = .int .i64 x30 ∧ Does Try.prog 21 #[.pointer r23] w29 (fun v w31 => ∃ (fine32 : Bool), v = .bool fine32 ∧ Does Try.prog 18 #[.pointer r23, .int .i64 4] w31 (fun v w33 => ∃ (c34 : Int), v = .int .u64 c34 ∧ if (p7 == p9) = true then
      Does Try.prog 13 #[.pointer w3] w33 (fun v w36 => ∃ (x37 : Int), v = .int .i64 x37 ∧ if x37 = 9 then
        Does Try.prog 15 #[.pointer w3] w36 (fun v w39 => ∃ (x_a40 : Option Addr) (x_n41 x_c42 : Nat), v = .slice x_a40 x_n41 x_c42 ∧ New w39 5 [.int .u8 175, .int .u8 128] (fun p43 w44 => Does Try.prog 14 #[.slice x_a40 x_n41 x_c42, .slice (some p43) 2 2] w44 (fun v w45 => ∃ (x46 : Bool), v = .bool x46 ∧ if x46 = true then
          if x26 = 5 then
            if x28 = 1 then
              if x30 = 3 then
                if (!fine32) = true then
                  if c34 = 0 then
                    Does Try.prog 21 #[.pointer r23] w45 (fun v w53 => ∃ (x54 : Bool), v = .bool x54 ∧ if x54 = true then
                      Does Try.prog 20 #[.pointer r23] w53 (fun v w56 => ∃ (x57 : Int), v = .int .i64 x57 ∧ if x57 = 0 then
                        Does Try.prog 18 #[.pointer r23, .int .i64 0] w56 (fun v w59 => ∃ (x60 : Int), v = .int .u64 x60 ∧ k (.bool (decide (x60 = 0))) w59)
                      else
                        k (.bool false) w56)
                    else
                      k (.bool false) w53)
                  else
                    k (.bool false) w45
                else
                  k (.bool false) w45
              else
                k (.bool false) w45
            else
              k (.bool false) w45
          else
            k (.bool false) w45
        else
          k (.bool false) w45)))
      else
        k (.bool false) w36)
    else
      k (.bool false) w33)))))))))))))
set_option maxRecDepth 100000 in
set_option maxHeartbeats 2000000 in
theorem w10 (w1 : World) (k : Value → World → Prop) (h : F10 w1 k) : Does Try.prog 10 #[] w1 k := by
  refine enter 84 Try.func10 rfl rfl rfl ?_
  intro ρ hρ
  unfold F10 at h
  refine WC_seq ?_
  refine WC_region ?_
  refine WL_val gd0 ((o_assign (v := .bool false) rfl) _) rfl ?_
  refine WL_nil ?_
  refine nrm ?_
  refine WC_seq ?_
  refine WC_region ?_
  refine WL_call gd0 (o_call Try.call8 argNil _) rfl (h.mono ?_)
  rintro _ w2 ⟨w3, rfl, h⟩
  refine WL_val gd0 ((o_assign (v := .pointer w3) rfl) _) rfl ?_
  refine WL_nil ?_
  refine nrm ?_
  refine WC_seq ?_
  refine WC_seq ?_
  refine WC_region ?_
  refine WL_val gd0 ((o_move (v := .pointer w3) rfl) _) rfl ?_
  refine WL_val gd0 ((o_eqlPtrNil Try.underlying23 rfl rfl) _) rfl ?_
  refine WL_nil ?_
  refine nrm ?_
  refine WC_cond (t := ((w3).isNone)) rfl (fun hb4 => ?_) (fun hb4 => ?_)
  · rw [if_pos hb4] at h
    refine WC_seq ?_
    refine WC_region ?_
    refine WL_val gd0 ((o_assign (v := .bool false) rfl) _) rfl ?_
    refine WL_nil ?_
    refine nrm ?_
    refine WC_ret ?_
    refine rtT ?_
    refine rtE ?_
    exact gv1 rfl rfl h
  · rw [if_neg (neT hb4)] at h
    refine WC_skip ?_
    refine nrm ?_
    refine WC_seq ?_
    refine WC_region ?_
    refine WL_val gd0 ((o_move (v := .pointer w3) rfl) _) rfl ?_
    refine WL_call gd0 (o_call Try.call11 (argCons rfl (argCons rfl (argCons rfl argNil))) _) rfl (h.mono ?_)
    rintro _ w5 ⟨x6, rfl, h⟩
    refine WL_val gd0 ((o_move (v := .pointer w3) rfl) _) rfl ?_
    obtain ⟨p7, q8, h⟩ := h
    obtain ⟨p9, q10, h⟩ := h
    obtain ⟨c11, h⟩ := h
    refine WL_val gd0 ((o_eqlPtr Try.underlying23 Try.sizeOf53 rfl (by exact (congrArg Value.pointer q8)) (by exact (congrArg Value.pointer q10)) c11) _) rfl ?_
    refine WL_val gd0 ((o_assign (v := .bool (p7 == p9)) rfl) _) rfl ?_
    refine WL_nil ?_
    refine nrm ?_
    refine WC_seq ?_
    refine WC_region ?_
    refine WL_val gd0 ((o_move (v := .pointer w3) rfl) _) rfl ?_
    refine WL_call gd0 (o_call Try.call11 (argCons rfl (argCons rfl (argCons rfl argNil))) _) rfl (h.mono ?_)
    rintro _ w12 ⟨x13, rfl, h⟩
    refine WL_nil ?_
    refine nrm ?_
    refine WC_seq ?_
    refine WC_region ?_
    refine WL_val gd0 ((o_move (v := .pointer w3) rfl) _) rfl ?_
    refine WL_call gd0 (o_call Try.call11 (argCons rfl (argCons rfl (argCons rfl argNil))) _) rfl (h.mono ?_)
    rintro _ w14 ⟨x15, rfl, h⟩
    refine WL_nil ?_
    refine nrm ?_
    refine WC_seq ?_
    refine WC_region ?_
    refine WL_val gd0 ((o_move (v := .pointer w3) rfl) _) rfl ?_
    refine WL_call gd0 (o_call Try.call11 (argCons rfl (argCons rfl (argCons rfl argNil))) _) rfl (h.mono ?_)
    rintro _ w16 ⟨x17, rfl, h⟩
    refine WL_nil ?_
    refine nrm ?_
    refine WC_seq ?_
    refine WC_region ?_
    refine WL_val gd0 ((o_move (v := .pointer w3) rfl) _) rfl ?_
    refine WL_call gd0 (o_call Try.call11 (argCons rfl (argCons rfl (argCons rfl argNil))) _) rfl (h.mono ?_)
    rintro _ w18 ⟨x19, rfl, h⟩
    refine WL_nil ?_
    refine nrm ?_
    refine WC_seq ?_
    refine WC_region ?_
    have h := New.out h
    refine WL_val gd0 (o_buildSlice (e := 5) (ps := [(0, .int .u8 175)]) (cs := [.int .u8 175]) (partCons rfl partNil) (fun w => by kernel_rfl)) rfl ?_
    generalize hp20 : fresh w18 = p20 at h ⊢
    generalize hw21 : push w18 5 [.int .u8 175] = w21 at h ⊢
    try dsimp only at h
    refine WL_call gd0 (o_call Try.call17 (argCons rfl argNil) _) rfl (h.mono ?_)
    rintro _ w22 ⟨r23, rfl, h⟩
    refine WL_val gd0 ((o_assign (v := .pointer r23) rfl) _) rfl ?_
    refine WL_nil ?_
    refine nrm ?_
    refine WC_seq ?_
    refine WC_seq ?_
    refine WC_region ?_
    refine WL_val gd0 ((o_move (v := .pointer r23) rfl) _) rfl ?_
    refine WL_val gd0 ((o_eqlPtrNil Try.underlying38 rfl rfl) _) rfl ?_
    refine WL_nil ?_
    refine nrm ?_
    refine WC_cond (t := ((r23).isNone)) rfl (fun hb24 => ?_) (fun hb24 => ?_)
    · rw [if_pos hb24] at h
      refine WC_seq ?_
      refine WC_region ?_
      refine WL_val gd0 ((o_assign (v := .bool false) rfl) _) rfl ?_
      refine WL_nil ?_
      refine nrm ?_
      refine WC_ret ?_
      refine rtT ?_
      refine rtE ?_
      exact gv1 rfl rfl h
    · rw [if_neg (neT hb24)] at h
      refine WC_skip ?_
      refine nrm ?_
      refine WC_seq ?_
      refine WC_region ?_
      refine WL_val gd0 ((o_move (v := .pointer r23) rfl) _) rfl ?_
      refine WL_call gd0 (o_call Try.call18 (argCons rfl (argCons rfl argNil)) _) rfl (h.mono ?_)
      rintro _ w25 ⟨x26, rfl, h⟩
      refine WL_val gd0 ((o_move (v := .pointer r23) rfl) _) rfl ?_
      refine WL_call gd0 (o_call Try.call18 (argCons rfl (argCons rfl argNil)) _) rfl (h.mono ?_)
      rintro _ w27 ⟨x28, rfl, h⟩
      refine WL_val gd0 ((o_move (v := .pointer r23) rfl) _) rfl ?_
      refine WL_call gd0 (o_call Try.call20 (argCons rfl argNil) _) rfl (h.mono ?_)
      rintro _ w29 ⟨x30, rfl, h⟩
      refine WL_val gd0 ((o_assign (v := .int .u64 x26) rfl) _) rfl ?_
      refine WL_val gd0 ((o_assign (v := .int .u64 x28) rfl) _) rfl ?_
      refine WL_val gd0 ((o_assign (v := .int .i64 x30) rfl) _) rfl ?_
      refine WL_nil ?_
      refine nrm ?_
      refine WC_seq ?_
      refine WC_region ?_
      refine WL_val gd0 ((o_move (v := .pointer r23) rfl) _) rfl ?_
      refine WL_call gd0 (o_call Try.call21 (argCons rfl argNil) _) rfl (h.mono ?_)
      rintro _ w31 ⟨fine32, rfl, h⟩
      refine WL_val gd0 ((o_assign (v := .bool fine32) rfl) _) rfl ?_
      refine WL_nil ?_
      refine nrm ?_
      refine WC_seq ?_
      refine WC_region ?_
      refine WL_val gd0 ((o_move (v := .pointer r23) rfl) _) rfl ?_
      refine WL_call gd0 (o_call Try.call18 (argCons rfl (argCons rfl argNil)) _) rfl (h.mono ?_)
      rintro _ w33 ⟨c34, rfl, h⟩
      refine WL_val gd0 ((o_assign (v := .int .u64 c34) rfl) _) rfl ?_
      refine WL_nil ?_
      refine nrm ?_
      refine WC_seq ?_
      refine WC_region ?_
      refine WL_val gd0 ((o_move (v := .bool (p7 == p9)) rfl) _) rfl ?_
      refine WL_val gd0 ((o_move (v := .bool (p7 == p9)) rfl) _) rfl ?_
      refine bsplit (p7 == p9) (fun hb35 => ?_) (fun hb35 => ?_)
      · rw [if_pos hb35] at h
        refine WL_val (gdY (b := (p7 == p9)) 39 rfl rfl hb35) ((o_move (v := .pointer w3) rfl) _) rfl ?_
        refine WL_call (gdY (b := (p7 == p9)) 39 rfl rfl hb35) (o_call Try.call13 (argCons rfl argNil) _) rfl (h.mono ?_)
        rintro _ w36 ⟨x37, rfl, h⟩
        refine WL_val (gdY (b := (p7 == p9)) 39 rfl rfl hb35) ((o_eql rfl rfl) _) rfl ?_
        refine WL_val gd0 ((o_pickT (v := .bool (decide (x37 = 9))) rfl hb35 rfl) _) rfl ?_
        refine WL_val gd0 ((o_move (v := .bool (decide (x37 = 9))) rfl) _) rfl ?_
        refine bsplit (decide (x37 = 9)) (fun hb38 => ?_) (fun hb38 => ?_)
        · rw [if_pos (of_decide_eq_true hb38)] at h
          refine WL_val (gdY (b := (decide (x37 = 9))) 44 rfl rfl hb38) ((o_move (v := .pointer w3) rfl) _) rfl ?_
          refine WL_call (gdY (b := (decide (x37 = 9))) 44 rfl rfl hb38) (o_call Try.call15 (argCons rfl argNil) _) rfl (h.mono ?_)
          rintro _ w39 ⟨x_a40, x_n41, x_c42, rfl, h⟩
          have h := New.out h
          refine WL_val (gdY (b := (decide (x37 = 9))) 44 rfl rfl hb38) (o_buildSlice (e := 5) (ps := [(0, .int .u8 175), (1, .int .u8 128)]) (cs := [.int .u8 175, .int .u8 128]) (partCons rfl (partCons rfl partNil)) (fun w => by kernel_rfl)) rfl ?_
          generalize hp43 : fresh w39 = p43 at h ⊢
          generalize hw44 : push w39 5 [.int .u8 175, .int .u8 128] = w44 at h ⊢
          try dsimp only at h
          refine WL_call (gdY (b := (decide (x37 = 9))) 44 rfl rfl hb38) (o_call Try.call14 (argCons rfl (argCons rfl argNil)) _) rfl (h.mono ?_)
          rintro _ w45 ⟨x46, rfl, h⟩
          refine WL_val gd0 ((o_pickT (v := .bool x46) rfl hb38 rfl) _) rfl ?_
          refine WL_val gd0 ((o_move (v := .bool x46) rfl) _) rfl ?_
          refine bsplit x46 (fun hb47 => ?_) (fun hb47 => ?_)
          · rw [if_pos hb47] at h
            refine WL_val (gdY (b := x46) 50 rfl rfl hb47) ((o_move (v := .int .u64 x26) rfl) _) rfl ?_
            refine WL_val (gdY (b := x46) 50 rfl rfl hb47) ((o_eql rfl rfl) _) rfl ?_
            refine WL_val gd0 ((o_pickT (v := .bool (decide (x26 = 5))) rfl hb47 rfl) _) rfl ?_
            refine WL_val gd0 ((o_move (v := .bool (decide (x26 = 5))) rfl) _) rfl ?_
            refine bsplit (decide (x26 = 5)) (fun hb48 => ?_) (fun hb48 => ?_)
            · rw [if_pos (of_decide_eq_true hb48)] at h
              refine WL_val (gdY (b := (decide (x26 = 5))) 54 rfl rfl hb48) ((o_move (v := .int .u64 x28) rfl) _) rfl ?_
              refine WL_val (gdY (b := (decide (x26 = 5))) 54 rfl rfl hb48) ((o_eql rfl rfl) _) rfl ?_
              refine WL_val gd0 ((o_pickT (v := .bool (decide (x28 = 1))) rfl hb48 rfl) _) rfl ?_
              refine WL_val gd0 ((o_move (v := .bool (decide (x28 = 1))) rfl) _) rfl ?_
              refine bsplit (decide (x28 = 1)) (fun hb49 => ?_) (fun hb49 => ?_)
              · rw [if_pos (of_decide_eq_true hb49)] at h
                refine WL_val (gdY (b := (decide (x28 = 1))) 58 rfl rfl hb49) ((o_move (v := .int .i64 x30) rfl) _) rfl ?_
                refine WL_val (gdY (b := (decide (x28 = 1))) 58 rfl rfl hb49) ((o_eql rfl rfl) _) rfl ?_
                refine WL_val gd0 ((o_pickT (v := .bool (decide (x30 = 3))) rfl hb49 rfl) _) rfl ?_
                refine WL_val gd0 ((o_move (v := .bool (decide (x30 = 3))) rfl) _) rfl ?_
                refine bsplit (decide (x30 = 3)) (fun hb50 => ?_) (fun hb50 => ?_)
                · rw [if_pos (of_decide_eq_true hb50)] at h
                  refine WL_val (gdY (b := (decide (x30 = 3))) 62 rfl rfl hb50) ((o_move (v := .bool fine32) rfl) _) rfl ?_
                  refine WL_val (gdY (b := (decide (x30 = 3))) 62 rfl rfl hb50) ((o_not rfl) _) rfl ?_
                  refine WL_val gd0 ((o_pickT (v := .bool (!fine32)) rfl hb50 rfl) _) rfl ?_
                  refine WL_val gd0 ((o_move (v := .bool (!fine32)) rfl) _) rfl ?_
                  refine bsplit (!fine32) (fun hb51 => ?_) (fun hb51 => ?_)
                  · rw [if_pos hb51] at h
                    refine WL_val (gdY (b := (!fine32)) 66 rfl rfl hb51) ((o_move (v := .int .u64 c34) rfl) _) rfl ?_
                    refine WL_val (gdY (b := (!fine32)) 66 rfl rfl hb51) ((o_eql rfl rfl) _) rfl ?_
                    refine WL_val gd0 ((o_pickT (v := .bool (decide (c34 = 0))) rfl hb51 rfl) _) rfl ?_
                    refine WL_val gd0 ((o_move (v := .bool (decide (c34 = 0))) rfl) _) rfl ?_
                    refine bsplit (decide (c34 = 0)) (fun hb52 => ?_) (fun hb52 => ?_)
                    · rw [if_pos (of_decide_eq_true hb52)] at h
                      refine WL_val (gdY (b := (decide (c34 = 0))) 70 rfl rfl hb52) ((o_move (v := .pointer r23) rfl) _) rfl ?_
                      refine WL_call (gdY (b := (decide (c34 = 0))) 70 rfl rfl hb52) (o_call Try.call21 (argCons rfl argNil) _) rfl (h.mono ?_)
                      rintro _ w53 ⟨x54, rfl, h⟩
                      refine WL_val gd0 ((o_pickT (v := .bool x54) rfl hb52 rfl) _) rfl ?_
                      refine WL_val gd0 ((o_move (v := .bool x54) rfl) _) rfl ?_
                      refine bsplit x54 (fun hb55 => ?_) (fun hb55 => ?_)
                      · rw [if_pos hb55] at h
                        refine WL_val (gdY (b := x54) 74 rfl rfl hb55) ((o_move (v := .pointer r23) rfl) _) rfl ?_
                        refine WL_call (gdY (b := x54) 74 rfl rfl hb55) (o_call Try.call20 (argCons rfl argNil) _) rfl (h.mono ?_)
                        rintro _ w56 ⟨x57, rfl, h⟩
                        refine WL_val (gdY (b := x54) 74 rfl rfl hb55) ((o_eql rfl rfl) _) rfl ?_
                        refine WL_val gd0 ((o_pickT (v := .bool (decide (x57 = 0))) rfl hb55 rfl) _) rfl ?_
                        refine WL_val gd0 ((o_move (v := .bool (decide (x57 = 0))) rfl) _) rfl ?_
                        refine bsplit (decide (x57 = 0)) (fun hb58 => ?_) (fun hb58 => ?_)
                        · rw [if_pos (of_decide_eq_true hb58)] at h
                          refine WL_val (gdY (b := (decide (x57 = 0))) 79 rfl rfl hb58) ((o_move (v := .pointer r23) rfl) _) rfl ?_
                          refine WL_call (gdY (b := (decide (x57 = 0))) 79 rfl rfl hb58) (o_call Try.call18 (argCons rfl (argCons rfl argNil)) _) rfl (h.mono ?_)
                          rintro _ w59 ⟨x60, rfl, h⟩
                          refine WL_val (gdY (b := (decide (x57 = 0))) 79 rfl rfl hb58) ((o_eql rfl rfl) _) rfl ?_
                          refine WL_val gd0 ((o_pickT (v := .bool (decide (x60 = 0))) rfl hb58 rfl) _) rfl ?_
                          refine WL_val gd0 ((o_assign (v := .bool (decide (x60 = 0))) rfl) _) rfl ?_
                          refine WL_nil ?_
                          refine nrm ?_
                          refine WC_ret ?_
                          refine rtE ?_
                          exact gv1 rfl rfl h
                        · rw [if_neg (of_decide_eq_false hb58)] at h
                          refine WL_skip (gdN (b := (decide (x57 = 0))) 79 rfl rfl hb58) rfl ?_
                          refine WL_skip (gdN (b := (decide (x57 = 0))) 79 rfl rfl hb58) rfl ?_
                          refine WL_skip (gdN (b := (decide (x57 = 0))) 79 rfl rfl hb58) rfl ?_
                          refine WL_val gd0 ((o_pickF (v := .bool false) rfl hb58 rfl) _) rfl ?_
                          refine WL_val gd0 ((o_assign (v := .bool false) rfl) _) rfl ?_
                          refine WL_nil ?_
                          refine nrm ?_
                          refine WC_ret ?_
                          refine rtE ?_
                          exact gv1 rfl rfl h
                      · rw [if_neg (neT hb55)] at h
                        refine WL_skip (gdN (b := x54) 74 rfl rfl hb55) rfl ?_
                        refine WL_skip (gdN (b := x54) 74 rfl rfl hb55) rfl ?_
                        refine WL_skip (gdN (b := x54) 74 rfl rfl hb55) rfl ?_
                        refine WL_val gd0 ((o_pickF (v := .bool false) rfl hb55 rfl) _) rfl ?_
                        refine WL_val gd0 ((o_move (v := .bool false) rfl) _) rfl ?_
                        refine WL_skip (gdN (b := false) 79 rfl rfl rfl) rfl ?_
                        refine WL_skip (gdN (b := false) 79 rfl rfl rfl) rfl ?_
                        refine WL_skip (gdN (b := false) 79 rfl rfl rfl) rfl ?_
                        refine WL_val gd0 ((o_pickF (v := .bool false) rfl rfl rfl) _) rfl ?_
                        refine WL_val gd0 ((o_assign (v := .bool false) rfl) _) rfl ?_
                        refine WL_nil ?_
                        refine nrm ?_
                        refine WC_ret ?_
                        refine rtE ?_
                        exact gv1 rfl rfl h
                    · rw [if_neg (of_decide_eq_false hb52)] at h
                      refine WL_skip (gdN (b := (decide (c34 = 0))) 70 rfl rfl hb52) rfl ?_
                      refine WL_skip (gdN (b := (decide (c34 = 0))) 70 rfl rfl hb52) rfl ?_
                      refine WL_val gd0 ((o_pickF (v := .bool false) rfl hb52 rfl) _) rfl ?_
                      refine WL_val gd0 ((o_move (v := .bool false) rfl) _) rfl ?_
                      refine WL_skip (gdN (b := false) 74 rfl rfl rfl) rfl ?_
                      refine WL_skip (gdN (b := false) 74 rfl rfl rfl) rfl ?_
                      refine WL_skip (gdN (b := false) 74 rfl rfl rfl) rfl ?_
                      refine WL_val gd0 ((o_pickF (v := .bool false) rfl rfl rfl) _) rfl ?_
                      refine WL_val gd0 ((o_move (v := .bool false) rfl) _) rfl ?_
                      refine WL_skip (gdN (b := false) 79 rfl rfl rfl) rfl ?_
                      refine WL_skip (gdN (b := false) 79 rfl rfl rfl) rfl ?_
                      refine WL_skip (gdN (b := false) 79 rfl rfl rfl) rfl ?_
                      refine WL_val gd0 ((o_pickF (v := .bool false) rfl rfl rfl) _) rfl ?_
                      refine WL_val gd0 ((o_assign (v := .bool false) rfl) _) rfl ?_
                      refine WL_nil ?_
                      refine nrm ?_
                      refine WC_ret ?_
                      refine rtE ?_
                      exact gv1 rfl rfl h
                  · rw [if_neg (neT hb51)] at h
                    refine WL_skip (gdN (b := (!fine32)) 66 rfl rfl hb51) rfl ?_
                    refine WL_skip (gdN (b := (!fine32)) 66 rfl rfl hb51) rfl ?_
                    refine WL_val gd0 ((o_pickF (v := .bool false) rfl hb51 rfl) _) rfl ?_
                    refine WL_val gd0 ((o_move (v := .bool false) rfl) _) rfl ?_
                    refine WL_skip (gdN (b := false) 70 rfl rfl rfl) rfl ?_
                    refine WL_skip (gdN (b := false) 70 rfl rfl rfl) rfl ?_
                    refine WL_val gd0 ((o_pickF (v := .bool false) rfl rfl rfl) _) rfl ?_
                    refine WL_val gd0 ((o_move (v := .bool false) rfl) _) rfl ?_
                    refine WL_skip (gdN (b := false) 74 rfl rfl rfl) rfl ?_
                    refine WL_skip (gdN (b := false) 74 rfl rfl rfl) rfl ?_
                    refine WL_skip (gdN (b := false) 74 rfl rfl rfl) rfl ?_
                    refine WL_val gd0 ((o_pickF (v := .bool false) rfl rfl rfl) _) rfl ?_
                    refine WL_val gd0 ((o_move (v := .bool false) rfl) _) rfl ?_
                    refine WL_skip (gdN (b := false) 79 rfl rfl rfl) rfl ?_
                    refine WL_skip (gdN (b := false) 79 rfl rfl rfl) rfl ?_
                    refine WL_skip (gdN (b := false) 79 rfl rfl rfl) rfl ?_
                    refine WL_val gd0 ((o_pickF (v := .bool false) rfl rfl rfl) _) rfl ?_
                    refine WL_val gd0 ((o_assign (v := .bool false) rfl) _) rfl ?_
                    refine WL_nil ?_
                    refine nrm ?_
                    refine WC_ret ?_
                    refine rtE ?_
                    exact gv1 rfl rfl h
                · rw [if_neg (of_decide_eq_false hb50)] at h
                  refine WL_skip (gdN (b := (decide (x30 = 3))) 62 rfl rfl hb50) rfl ?_
                  refine WL_skip (gdN (b := (decide (x30 = 3))) 62 rfl rfl hb50) rfl ?_
                  refine WL_val gd0 ((o_pickF (v := .bool false) rfl hb50 rfl) _) rfl ?_
                  refine WL_val gd0 ((o_move (v := .bool false) rfl) _) rfl ?_
                  refine WL_skip (gdN (b := false) 66 rfl rfl rfl) rfl ?_
                  refine WL_skip (gdN (b := false) 66 rfl rfl rfl) rfl ?_
                  refine WL_val gd0 ((o_pickF (v := .bool false) rfl rfl rfl) _) rfl ?_
                  refine WL_val gd0 ((o_move (v := .bool false) rfl) _) rfl ?_
                  refine WL_skip (gdN (b := false) 70 rfl rfl rfl) rfl ?_
                  refine WL_skip (gdN (b := false) 70 rfl rfl rfl) rfl ?_
                  refine WL_val gd0 ((o_pickF (v := .bool false) rfl rfl rfl) _) rfl ?_
                  refine WL_val gd0 ((o_move (v := .bool false) rfl) _) rfl ?_
                  refine WL_skip (gdN (b := false) 74 rfl rfl rfl) rfl ?_
                  refine WL_skip (gdN (b := false) 74 rfl rfl rfl) rfl ?_
                  refine WL_skip (gdN (b := false) 74 rfl rfl rfl) rfl ?_
                  refine WL_val gd0 ((o_pickF (v := .bool false) rfl rfl rfl) _) rfl ?_
                  refine WL_val gd0 ((o_move (v := .bool false) rfl) _) rfl ?_
                  refine WL_skip (gdN (b := false) 79 rfl rfl rfl) rfl ?_
                  refine WL_skip (gdN (b := false) 79 rfl rfl rfl) rfl ?_
                  refine WL_skip (gdN (b := false) 79 rfl rfl rfl) rfl ?_
                  refine WL_val gd0 ((o_pickF (v := .bool false) rfl rfl rfl) _) rfl ?_
                  refine WL_val gd0 ((o_assign (v := .bool false) rfl) _) rfl ?_
                  refine WL_nil ?_
                  refine nrm ?_
                  refine WC_ret ?_
                  refine rtE ?_
                  exact gv1 rfl rfl h
              · rw [if_neg (of_decide_eq_false hb49)] at h
                refine WL_skip (gdN (b := (decide (x28 = 1))) 58 rfl rfl hb49) rfl ?_
                refine WL_skip (gdN (b := (decide (x28 = 1))) 58 rfl rfl hb49) rfl ?_
                refine WL_val gd0 ((o_pickF (v := .bool false) rfl hb49 rfl) _) rfl ?_
                refine WL_val gd0 ((o_move (v := .bool false) rfl) _) rfl ?_
                refine WL_skip (gdN (b := false) 62 rfl rfl rfl) rfl ?_
                refine WL_skip (gdN (b := false) 62 rfl rfl rfl) rfl ?_
                refine WL_val gd0 ((o_pickF (v := .bool false) rfl rfl rfl) _) rfl ?_
                refine WL_val gd0 ((o_move (v := .bool false) rfl) _) rfl ?_
                refine WL_skip (gdN (b := false) 66 rfl rfl rfl) rfl ?_
                refine WL_skip (gdN (b := false) 66 rfl rfl rfl) rfl ?_
                refine WL_val gd0 ((o_pickF (v := .bool false) rfl rfl rfl) _) rfl ?_
                refine WL_val gd0 ((o_move (v := .bool false) rfl) _) rfl ?_
                refine WL_skip (gdN (b := false) 70 rfl rfl rfl) rfl ?_
                refine WL_skip (gdN (b := false) 70 rfl rfl rfl) rfl ?_
                refine WL_val gd0 ((o_pickF (v := .bool false) rfl rfl rfl) _) rfl ?_
                refine WL_val gd0 ((o_move (v := .bool false) rfl) _) rfl ?_
                refine WL_skip (gdN (b := false) 74 rfl rfl rfl) rfl ?_
                refine WL_skip (gdN (b := false) 74 rfl rfl rfl) rfl ?_
                refine WL_skip (gdN (b := false) 74 rfl rfl rfl) rfl ?_
                refine WL_val gd0 ((o_pickF (v := .bool false) rfl rfl rfl) _) rfl ?_
                refine WL_val gd0 ((o_move (v := .bool false) rfl) _) rfl ?_
                refine WL_skip (gdN (b := false) 79 rfl rfl rfl) rfl ?_
                refine WL_skip (gdN (b := false) 79 rfl rfl rfl) rfl ?_
                refine WL_skip (gdN (b := false) 79 rfl rfl rfl) rfl ?_
                refine WL_val gd0 ((o_pickF (v := .bool false) rfl rfl rfl) _) rfl ?_
                refine WL_val gd0 ((o_assign (v := .bool false) rfl) _) rfl ?_
                refine WL_nil ?_
                refine nrm ?_
                refine WC_ret ?_
                refine rtE ?_
                exact gv1 rfl rfl h
            · rw [if_neg (of_decide_eq_false hb48)] at h
              refine WL_skip (gdN (b := (decide (x26 = 5))) 54 rfl rfl hb48) rfl ?_
              refine WL_skip (gdN (b := (decide (x26 = 5))) 54 rfl rfl hb48) rfl ?_
              refine WL_val gd0 ((o_pickF (v := .bool false) rfl hb48 rfl) _) rfl ?_
              refine WL_val gd0 ((o_move (v := .bool false) rfl) _) rfl ?_
              refine WL_skip (gdN (b := false) 58 rfl rfl rfl) rfl ?_
              refine WL_skip (gdN (b := false) 58 rfl rfl rfl) rfl ?_
              refine WL_val gd0 ((o_pickF (v := .bool false) rfl rfl rfl) _) rfl ?_
              refine WL_val gd0 ((o_move (v := .bool false) rfl) _) rfl ?_
              refine WL_skip (gdN (b := false) 62 rfl rfl rfl) rfl ?_
              refine WL_skip (gdN (b := false) 62 rfl rfl rfl) rfl ?_
              refine WL_val gd0 ((o_pickF (v := .bool false) rfl rfl rfl) _) rfl ?_
              refine WL_val gd0 ((o_move (v := .bool false) rfl) _) rfl ?_
              refine WL_skip (gdN (b := false) 66 rfl rfl rfl) rfl ?_
              refine WL_skip (gdN (b := false) 66 rfl rfl rfl) rfl ?_
              refine WL_val gd0 ((o_pickF (v := .bool false) rfl rfl rfl) _) rfl ?_
              refine WL_val gd0 ((o_move (v := .bool false) rfl) _) rfl ?_
              refine WL_skip (gdN (b := false) 70 rfl rfl rfl) rfl ?_
              refine WL_skip (gdN (b := false) 70 rfl rfl rfl) rfl ?_
              refine WL_val gd0 ((o_pickF (v := .bool false) rfl rfl rfl) _) rfl ?_
              refine WL_val gd0 ((o_move (v := .bool false) rfl) _) rfl ?_
              refine WL_skip (gdN (b := false) 74 rfl rfl rfl) rfl ?_
              refine WL_skip (gdN (b := false) 74 rfl rfl rfl) rfl ?_
              refine WL_skip (gdN (b := false) 74 rfl rfl rfl) rfl ?_
              refine WL_val gd0 ((o_pickF (v := .bool false) rfl rfl rfl) _) rfl ?_
              refine WL_val gd0 ((o_move (v := .bool false) rfl) _) rfl ?_
              refine WL_skip (gdN (b := false) 79 rfl rfl rfl) rfl ?_
              refine WL_skip (gdN (b := false) 79 rfl rfl rfl) rfl ?_
              refine WL_skip (gdN (b := false) 79 rfl rfl rfl) rfl ?_
              refine WL_val gd0 ((o_pickF (v := .bool false) rfl rfl rfl) _) rfl ?_
              refine WL_val gd0 ((o_assign (v := .bool false) rfl) _) rfl ?_
              refine WL_nil ?_
              refine nrm ?_
              refine WC_ret ?_
              refine rtE ?_
              exact gv1 rfl rfl h
          · rw [if_neg (neT hb47)] at h
            refine WL_skip (gdN (b := x46) 50 rfl rfl hb47) rfl ?_
            refine WL_skip (gdN (b := x46) 50 rfl rfl hb47) rfl ?_
            refine WL_val gd0 ((o_pickF (v := .bool false) rfl hb47 rfl) _) rfl ?_
            refine WL_val gd0 ((o_move (v := .bool false) rfl) _) rfl ?_
            refine WL_skip (gdN (b := false) 54 rfl rfl rfl) rfl ?_
            refine WL_skip (gdN (b := false) 54 rfl rfl rfl) rfl ?_
            refine WL_val gd0 ((o_pickF (v := .bool false) rfl rfl rfl) _) rfl ?_
            refine WL_val gd0 ((o_move (v := .bool false) rfl) _) rfl ?_
            refine WL_skip (gdN (b := false) 58 rfl rfl rfl) rfl ?_
            refine WL_skip (gdN (b := false) 58 rfl rfl rfl) rfl ?_
            refine WL_val gd0 ((o_pickF (v := .bool false) rfl rfl rfl) _) rfl ?_
            refine WL_val gd0 ((o_move (v := .bool false) rfl) _) rfl ?_
            refine WL_skip (gdN (b := false) 62 rfl rfl rfl) rfl ?_
            refine WL_skip (gdN (b := false) 62 rfl rfl rfl) rfl ?_
            refine WL_val gd0 ((o_pickF (v := .bool false) rfl rfl rfl) _) rfl ?_
            refine WL_val gd0 ((o_move (v := .bool false) rfl) _) rfl ?_
            refine WL_skip (gdN (b := false) 66 rfl rfl rfl) rfl ?_
            refine WL_skip (gdN (b := false) 66 rfl rfl rfl) rfl ?_
            refine WL_val gd0 ((o_pickF (v := .bool false) rfl rfl rfl) _) rfl ?_
            refine WL_val gd0 ((o_move (v := .bool false) rfl) _) rfl ?_
            refine WL_skip (gdN (b := false) 70 rfl rfl rfl) rfl ?_
            refine WL_skip (gdN (b := false) 70 rfl rfl rfl) rfl ?_
            refine WL_val gd0 ((o_pickF (v := .bool false) rfl rfl rfl) _) rfl ?_
            refine WL_val gd0 ((o_move (v := .bool false) rfl) _) rfl ?_
            refine WL_skip (gdN (b := false) 74 rfl rfl rfl) rfl ?_
            refine WL_skip (gdN (b := false) 74 rfl rfl rfl) rfl ?_
            refine WL_skip (gdN (b := false) 74 rfl rfl rfl) rfl ?_
            refine WL_val gd0 ((o_pickF (v := .bool false) rfl rfl rfl) _) rfl ?_
            refine WL_val gd0 ((o_move (v := .bool false) rfl) _) rfl ?_
            refine WL_skip (gdN (b := false) 79 rfl rfl rfl) rfl ?_
            refine WL_skip (gdN (b := false) 79 rfl rfl rfl) rfl ?_
            refine WL_skip (gdN (b := false) 79 rfl rfl rfl) rfl ?_
            refine WL_val gd0 ((o_pickF (v := .bool false) rfl rfl rfl) _) rfl ?_
            refine WL_val gd0 ((o_assign (v := .bool false) rfl) _) rfl ?_
            refine WL_nil ?_
            refine nrm ?_
            refine WC_ret ?_
            refine rtE ?_
            exact gv1 rfl rfl h
        · rw [if_neg (of_decide_eq_false hb38)] at h
          refine WL_skip (gdN (b := (decide (x37 = 9))) 44 rfl rfl hb38) rfl ?_
          refine WL_skip (gdN (b := (decide (x37 = 9))) 44 rfl rfl hb38) rfl ?_
          refine WL_skip (gdN (b := (decide (x37 = 9))) 44 rfl rfl hb38) rfl ?_
          refine WL_skip (gdN (b := (decide (x37 = 9))) 44 rfl rfl hb38) rfl ?_
          refine WL_val gd0 ((o_pickF (v := .bool false) rfl hb38 rfl) _) rfl ?_
          refine WL_val gd0 ((o_move (v := .bool false) rfl) _) rfl ?_
          refine WL_skip (gdN (b := false) 50 rfl rfl rfl) rfl ?_
          refine WL_skip (gdN (b := false) 50 rfl rfl rfl) rfl ?_
          refine WL_val gd0 ((o_pickF (v := .bool false) rfl rfl rfl) _) rfl ?_
          refine WL_val gd0 ((o_move (v := .bool false) rfl) _) rfl ?_
          refine WL_skip (gdN (b := false) 54 rfl rfl rfl) rfl ?_
          refine WL_skip (gdN (b := false) 54 rfl rfl rfl) rfl ?_
          refine WL_val gd0 ((o_pickF (v := .bool false) rfl rfl rfl) _) rfl ?_
          refine WL_val gd0 ((o_move (v := .bool false) rfl) _) rfl ?_
          refine WL_skip (gdN (b := false) 58 rfl rfl rfl) rfl ?_
          refine WL_skip (gdN (b := false) 58 rfl rfl rfl) rfl ?_
          refine WL_val gd0 ((o_pickF (v := .bool false) rfl rfl rfl) _) rfl ?_
          refine WL_val gd0 ((o_move (v := .bool false) rfl) _) rfl ?_
          refine WL_skip (gdN (b := false) 62 rfl rfl rfl) rfl ?_
          refine WL_skip (gdN (b := false) 62 rfl rfl rfl) rfl ?_
          refine WL_val gd0 ((o_pickF (v := .bool false) rfl rfl rfl) _) rfl ?_
          refine WL_val gd0 ((o_move (v := .bool false) rfl) _) rfl ?_
          refine WL_skip (gdN (b := false) 66 rfl rfl rfl) rfl ?_
          refine WL_skip (gdN (b := false) 66 rfl rfl rfl) rfl ?_
          refine WL_val gd0 ((o_pickF (v := .bool false) rfl rfl rfl) _) rfl ?_
          refine WL_val gd0 ((o_move (v := .bool false) rfl) _) rfl ?_
          refine WL_skip (gdN (b := false) 70 rfl rfl rfl) rfl ?_
          refine WL_skip (gdN (b := false) 70 rfl rfl rfl) rfl ?_
          refine WL_val gd0 ((o_pickF (v := .bool false) rfl rfl rfl) _) rfl ?_
          refine WL_val gd0 ((o_move (v := .bool false) rfl) _) rfl ?_
          refine WL_skip (gdN (b := false) 74 rfl rfl rfl) rfl ?_
          refine WL_skip (gdN (b := false) 74 rfl rfl rfl) rfl ?_
          refine WL_skip (gdN (b := false) 74 rfl rfl rfl) rfl ?_
          refine WL_val gd0 ((o_pickF (v := .bool false) rfl rfl rfl) _) rfl ?_
          refine WL_val gd0 ((o_move (v := .bool false) rfl) _) rfl ?_
          refine WL_skip (gdN (b := false) 79 rfl rfl rfl) rfl ?_
          refine WL_skip (gdN (b := false) 79 rfl rfl rfl) rfl ?_
          refine WL_skip (gdN (b := false) 79 rfl rfl rfl) rfl ?_
          refine WL_val gd0 ((o_pickF (v := .bool false) rfl rfl rfl) _) rfl ?_
          refine WL_val gd0 ((o_assign (v := .bool false) rfl) _) rfl ?_
          refine WL_nil ?_
          refine nrm ?_
          refine WC_ret ?_
          refine rtE ?_
          exact gv1 rfl rfl h
      · rw [if_neg (neT hb35)] at h
        refine WL_skip (gdN (b := (p7 == p9)) 39 rfl rfl hb35) rfl ?_
        refine WL_skip (gdN (b := (p7 == p9)) 39 rfl rfl hb35) rfl ?_
        refine WL_skip (gdN (b := (p7 == p9)) 39 rfl rfl hb35) rfl ?_
        refine WL_val gd0 ((o_pickF (v := .bool false) rfl hb35 rfl) _) rfl ?_
        refine WL_val gd0 ((o_move (v := .bool false) rfl) _) rfl ?_
        refine WL_skip (gdN (b := false) 44 rfl rfl rfl) rfl ?_
        refine WL_skip (gdN (b := false) 44 rfl rfl rfl) rfl ?_
        refine WL_skip (gdN (b := false) 44 rfl rfl rfl) rfl ?_
        refine WL_skip (gdN (b := false) 44 rfl rfl rfl) rfl ?_
        refine WL_val gd0 ((o_pickF (v := .bool false) rfl rfl rfl) _) rfl ?_
        refine WL_val gd0 ((o_move (v := .bool false) rfl) _) rfl ?_
        refine WL_skip (gdN (b := false) 50 rfl rfl rfl) rfl ?_
        refine WL_skip (gdN (b := false) 50 rfl rfl rfl) rfl ?_
        refine WL_val gd0 ((o_pickF (v := .bool false) rfl rfl rfl) _) rfl ?_
        refine WL_val gd0 ((o_move (v := .bool false) rfl) _) rfl ?_
        refine WL_skip (gdN (b := false) 54 rfl rfl rfl) rfl ?_
        refine WL_skip (gdN (b := false) 54 rfl rfl rfl) rfl ?_
        refine WL_val gd0 ((o_pickF (v := .bool false) rfl rfl rfl) _) rfl ?_
        refine WL_val gd0 ((o_move (v := .bool false) rfl) _) rfl ?_
        refine WL_skip (gdN (b := false) 58 rfl rfl rfl) rfl ?_
        refine WL_skip (gdN (b := false) 58 rfl rfl rfl) rfl ?_
        refine WL_val gd0 ((o_pickF (v := .bool false) rfl rfl rfl) _) rfl ?_
        refine WL_val gd0 ((o_move (v := .bool false) rfl) _) rfl ?_
        refine WL_skip (gdN (b := false) 62 rfl rfl rfl) rfl ?_
        refine WL_skip (gdN (b := false) 62 rfl rfl rfl) rfl ?_
        refine WL_val gd0 ((o_pickF (v := .bool false) rfl rfl rfl) _) rfl ?_
        refine WL_val gd0 ((o_move (v := .bool false) rfl) _) rfl ?_
        refine WL_skip (gdN (b := false) 66 rfl rfl rfl) rfl ?_
        refine WL_skip (gdN (b := false) 66 rfl rfl rfl) rfl ?_
        refine WL_val gd0 ((o_pickF (v := .bool false) rfl rfl rfl) _) rfl ?_
        refine WL_val gd0 ((o_move (v := .bool false) rfl) _) rfl ?_
        refine WL_skip (gdN (b := false) 70 rfl rfl rfl) rfl ?_
        refine WL_skip (gdN (b := false) 70 rfl rfl rfl) rfl ?_
        refine WL_val gd0 ((o_pickF (v := .bool false) rfl rfl rfl) _) rfl ?_
        refine WL_val gd0 ((o_move (v := .bool false) rfl) _) rfl ?_
        refine WL_skip (gdN (b := false) 74 rfl rfl rfl) rfl ?_
        refine WL_skip (gdN (b := false) 74 rfl rfl rfl) rfl ?_
        refine WL_skip (gdN (b := false) 74 rfl rfl rfl) rfl ?_
        refine WL_val gd0 ((o_pickF (v := .bool false) rfl rfl rfl) _) rfl ?_
        refine WL_val gd0 ((o_move (v := .bool false) rfl) _) rfl ?_
        refine WL_skip (gdN (b := false) 79 rfl rfl rfl) rfl ?_
        refine WL_skip (gdN (b := false) 79 rfl rfl rfl) rfl ?_
        refine WL_skip (gdN (b := false) 79 rfl rfl rfl) rfl ?_
        refine WL_val gd0 ((o_pickF (v := .bool false) rfl rfl rfl) _) rfl ?_
        refine WL_val gd0 ((o_assign (v := .bool false) rfl) _) rfl ?_
        refine WL_nil ?_
        refine nrm ?_
        refine WC_ret ?_
        refine rtE ?_
        exact gv1 rfl rfl h

def F11_j3 (width3 : Int) (t20 : Int) (w1 : Option Addr) (n2 : Int) (w30 : World) (nx21 : Int → World → Prop) : Prop :=
  (0 : Int) ≤ IntKind.i64.wrap ((IntKind.i64.wrap (width3 - 1)) - t20) ∧ ∃ (p32 : Addr), w1 = some p32 ∧ ∃ (x_a34 : Option Addr) (x_n35 x_c36 : Nat), w30.drew.cell? (p32.add 1) = some (.slice x_a34 x_n35 x_c36) ∧ ∃ (x38 : Int), w30.drew.cell? (p32.add 2) = some (.int .i64 x38) ∧ ∃ (p42 : Addr), x_a34 = some p42 ∧ (0 : Int) ≤ IntKind.i64.wrap (Int.tdiv x38 8) ∧ IntKind.i64.wrap (Int.tdiv x38 8) < (x_n35 : Int) ∧ ∃ (x44 : Int), w30.drew.cell? (p42.add ((IntKind.i64.wrap (Int.tdiv x38 8)).toNat)) = some (.int .u8 x44) ∧ ∃ (x46 : Int), w30.drew.cell? (p32.add 2) = some (.int .i64 x46) ∧ (0 : Int) ≤ IntKind.i64.wrap (7 - (Int.tmod x46 8)) ∧ (0 : Int) ≤ IntKind.i64.wrap (Int.tdiv x38 8) ∧ IntKind.i64.wrap (Int.tdiv x38 8) < (x_n35 : Int) ∧ Put w30.drew (p42.add ((IntKind.i64.wrap (Int.tdiv x38 8)).toNat)) (.int .u8 (bor .u8 x44 (shl .u8 (IntKind.u8.wrap (band .u64 (shr .u64 n2 (IntKind.i64.wrap ((IntKind.i64.wrap (width3 - 1)) - t20))) 1)) (IntKind.i64.wrap (7 - (Int.tmod x46 8)))))) (fun w51 => ∃ (x53 : Int), w51.cell? (p32.add 2) = some (.int .i64 x53) ∧ Put w51 (p32.add 2) (.int .i64 (IntKind.i64.wrap (x53 + 1))) (fun w55 => nx21 (IntKind.i64.wrap (t20 + 1)) w55))
def F11_b2 (width3 : Int) (w1 : Option Addr) (n2 : Int) (t20 : Int) (w21 : World) (nx21 : Int → World → Prop) (k : Value → World → Prop) : Prop :=
  if t20 < width3 then
  ∃ (p57 : Addr), w1 = some p57 ∧ ∃ (x59 : Int), w21.cell? (p57.add 2) = some (.int .i64 x59) ∧ if (Int.tmod x59 8) = 0 then
    ∃ (x_a62 : Option Addr) (x_n63 x_c64 : Nat), w21.cell? (p57.add 1) = some (.slice x_a62 x_n63 x_c64) ∧ New w21 5 [.int .u8 0] (fun p66 w67 => ∃ (b_a68 : Option Addr) (b_n69 b_c70 : Nat) (w71 : World), (Builtin.append_ #[27, 27] 27 #[.slice x_a62 x_n63 x_c64, .slice (some p66) 1 1]).run Try.prog w67 = .ok (.slice b_a68 b_n69 b_c70) w71 ∧ Put w71 (p57.add 1) (.slice b_a68 b_n69 b_c70) (fun w73 => F11_j3 width3 t20 w1 n2 w73 nx21))
  else
    F11_j3 width3 t20 w1 n2 w21 nx21
else
  k (.pointer w1) w21
def F11_j1 (w1 : Option Addr) (width3 : Int) (n2 : Int) (t12 : Bool) (w13 : World) (k : Value → World → Prop) : Prop :=
  if t12 = true then
  k (.pointer w1) w13
else
  LoopP (fun (s : Int) w' nx' => F11_b2 width3 w1 n2 s w' (fun x0 w => nx' x0 w) k) 0 w13
/-- (*spacecraft bits.Writer).Put -/
def F11 (w1 : Option Addr) (n2 : Int) (width3 : Int) (w4 : World) (k : Value → World → Prop) : Prop :=
  Does Try.prog 26 #[.pointer w1] w4 (fun v w5 => ∃ (x6 : Bool), v = .bool x6 ∧ if (!x6) = true then
  k (.pointer none) w5
else
  if width3 < 0 then
    F11_j1 w1 width3 n2 true w5 k
  else
    F11_j1 w1 width3 n2 (decide (64 < width3)) w5 k)
set_option maxRecDepth 100000 in
set_option maxHeartbeats 2000000 in
theorem w11 (w1 : Option Addr) (n2 : Int) (width3 : Int) (w4 : World) (k : Value → World → Prop) (h : F11 w1 n2 width3 w4 k) : Does Try.prog 11 #[.pointer w1, .int .u64 n2, .int .i64 width3] w4 k := by
  refine enter 76 Try.func11 rfl rfl rfl ?_
  intro ρ hρ
  have e0 := hρ 0 _ rfl
  have e1 := hρ 1 _ rfl
  have e2 := hρ 2 _ rfl
  unfold F11 at h
  refine WC_seq ?_
  refine WC_region ?_
  refine WL_val gd0 ((o_assign (v := .pointer none) rfl) _) rfl ?_
  refine WL_nil ?_
  refine nrm ?_
  refine WC_seq ?_
  refine WC_seq ?_
  refine WC_region ?_
  refine WL_val gd0 ((o_move (v := .pointer w1) (by exact e0)) _) rfl ?_
  refine WL_call gd0 (o_call Try.call26 (argCons rfl argNil) _) rfl (h.mono ?_)
  rintro _ w5 ⟨x6, rfl, h⟩
  refine WL_val gd0 ((o_not rfl) _) rfl ?_
  refine WL_nil ?_
  refine nrm ?_
  refine WC_cond (t := (!x6)) rfl (fun hb7 => ?_) (fun hb7 => ?_)
  · rw [if_pos hb7] at h
    refine WC_seq ?_
    refine WC_region ?_
    refine WL_val gd0 ((o_assign (v := .pointer none) rfl) _) rfl ?_
    refine WL_nil ?_
    refine nrm ?_
    refine WC_ret ?_
    refine rtT ?_
    refine rtE ?_
    exact gv1 rfl rfl h
  · rw [if_neg (neT hb7)] at h
    refine WC_skip ?_
    refine nrm ?_
    refine WC_seq ?_
    refine WC_cut (fun ρ w' => ∃ (t12 : Bool), ρ 17 = .bool t12 ∧ ρ 0 = .pointer w1 ∧ ρ 1 = .int .u64 n2 ∧ ρ 2 = .int .i64 width3 ∧ F11_j1 w1 width3 n2 t12 w' k) ?_ ?_
    · refine WC_region ?_
      refine WL_val gd0 ((o_move (v := .int .i64 width3) (by exact e2)) _) rfl ?_
      refine WL_val gd0 ((o_lss rfl rfl) _) rfl ?_
      refine WL_val gd0 ((o_move (v := .bool (decide (width3 < 0))) rfl) _) rfl ?_
      refine bsplit (decide (width3 < 0)) (fun hb75 => ?_) (fun hb75 => ?_)
      · rw [if_pos (of_decide_eq_true hb75)] at h
        refine WL_skip (gdN (b := (decide (width3 < 0))) 14 rfl rfl hb75) rfl ?_
        refine WL_skip (gdN (b := (decide (width3 < 0))) 14 rfl rfl hb75) rfl ?_
        refine WL_val gd0 ((o_pickT (v := .bool true) rfl hb75 rfl) _) rfl ?_
        refine WL_nil ?_
        refine nrm ?_
        exact ⟨_, rfl, e0, e1, e2, h⟩
      · rw [if_neg (of_decide_eq_false hb75)] at h
        refine WL_val (gdY (b := (decide (width3 < 0))) 14 rfl rfl hb75) ((o_move (v := .int .i64 width3) (by exact e2)) _) rfl ?_
        refine WL_val (gdY (b := (decide (width3 < 0))) 14 rfl rfl hb75) ((o_gtr rfl rfl) _) rfl ?_
        refine WL_val gd0 ((o_pickF (v := .bool (decide (64 < width3))) rfl hb75 rfl) _) rfl ?_
        refine WL_nil ?_
        refine nrm ?_
        exact ⟨_, rfl, e0, e1, e2, h⟩
    · rintro ρ w13 ⟨t12, e17_11, e0_8, e1_9, e2_10, h⟩
      unfold F11_j1 at h
      refine WC_cond (t := t12) (by exact e17_11) (fun hb14 => ?_) (fun hb14 => ?_)
      · rw [if_pos hb14] at h
        refine WC_seq ?_
        refine WC_region ?_
        refine WL_val gd0 ((o_move (v := .pointer w1) (by exact e0_8)) _) rfl ?_
        refine WL_val gd0 ((o_assign (v := .pointer w1) rfl) _) rfl ?_
        refine WL_nil ?_
        refine nrm ?_
        refine WC_ret ?_
        refine rtT ?_
        refine rtE ?_
        exact gv1 rfl rfl h
      · rw [if_neg (neT hb14)] at h
        refine WC_skip ?_
        refine nrm ?_
        refine WC_seq ?_
        refine WC_seq ?_
        refine WC_region ?_
        refine WL_val gd0 ((o_move (v := .int .i64 width3) (by exact e2_10)) _) rfl ?_
        refine WL_val gd0 ((o_move (v := .int .i64 0) rfl) _) rfl ?_
        refine WL_nil ?_
        refine nrm ?_
        refine WC_block ?_
        obtain ⟨J21, ⟨n21, h0⟩, hr21⟩ := h
        refine WC_loop (fun n ρ w' => ∃ (t20 : Int), ρ 20 = .int .i64 t20 ∧ ρ 0 = .pointer w1 ∧ ρ 1 = .int .u64 n2 ∧ ρ 2 = .int .i64 width3 ∧ ρ 19 = .int .i64 width3 ∧ J21 n t20 w') ⟨n21, _, rfl, e0_8, e1_9, e2_10, rfl, h0⟩ ?_
        rintro n21 ρ w21 ⟨t20, e20_19, e0_15, e1_16, e2_17, e19_18, h⟩
        have h : F11_b2 width3 w1 n2 t20 w21 (fun x0 w => ∃ m, m < n21 ∧ J21 m x0 w) k := hr21 n21 t20 w21 h
        unfold F11_b2 at h
        refine WC_seq ?_
        refine WC_region ?_
        refine WL_val gd0 ((o_lss (by exact e20_19) (by exact e19_18)) _) rfl ?_
        refine WL_nil ?_
        refine nrm ?_
        refine WC_seq ?_
        refine WC_cond (t := (decide (t20 < width3))) rfl (fun hb23 => ?_) (fun hb23 => ?_)
        · rw [if_pos (of_decide_eq_true hb23)] at h
          refine WC_skip ?_
          refine nrm ?_
          refine WC_seq ?_
          refine WC_block ?_
          refine WC_seq ?_
          refine WC_region ?_
          refine WL_val gd0 ((o_move (v := .int .i64 t20) (by exact e20_19)) _) rfl ?_
          refine WL_val gd0 ((o_assign (v := .int .i64 t20) rfl) _) rfl ?_
          refine WL_nil ?_
          refine nrm ?_
          refine WC_cut (fun ρ w' => ρ 0 = .pointer w1 ∧ ρ 1 = .int .u64 n2 ∧ ρ 2 = .int .i64 width3 ∧ ρ 7 = .int .i64 t20 ∧ ρ 19 = .int .i64 width3 ∧ ρ 20 = .int .i64 t20 ∧ F11_j3 width3 t20 w1 n2 w' (fun x0 w => ∃ m, m < n21 ∧ J21 m x0 w)) ?_ ?_
          · refine WC_seq ?_
            refine WC_region ?_
            refine WL_val gd0 ((o_move (v := .pointer w1) (by exact e0_15)) _) rfl ?_
            obtain ⟨p57, q58, h⟩ := h
            refine WL_val gd0 ((o_nilCheck (by exact (congrArg Value.pointer q58))) _) rfl ?_
            refine WL_val gd0 ((o_fieldAddr 2 Try.underlying53 rfl Try.sizeOf3 rfl rfl rfl) _) rfl ?_
            obtain ⟨x59, hc60, h⟩ := h
            refine WL_val gd0 (o_load Try.isAgg3 rfl hc60) rfl ?_
            refine WL_val gd0 ((fun w => o_rem rfl rfl w (by decide)) _) rfl ?_
            refine WL_val gd0 ((o_eql rfl rfl) _) rfl ?_
            refine WL_nil ?_
            refine nrm ?_
            refine WC_cond (t := (decide ((Int.tmod x59 8) = 0))) rfl (fun hb61 => ?_) (fun hb61 => ?_)
            · rw [if_pos (of_decide_eq_true hb61)] at h
              refine WC_region ?_
              refine WL_val gd0 ((o_move (v := .pointer w1) (by exact e0_15)) _) rfl ?_
              refine WL_val gd0 ((o_move (v := .pointer w1) (by exact e0_15)) _) rfl ?_
              refine WL_val gd0 ((o_nilCheck (by exact (congrArg Value.pointer q58))) _) rfl ?_
              refine WL_val gd0 ((o_fieldAddr 1 Try.underlying53 rfl Try.sizeOf27 rfl rfl rfl) _) rfl ?_
              obtain ⟨x_a62, x_n63, x_c64, hc65, h⟩ := h
              refine WL_val gd0 (o_load Try.isAgg27 rfl hc65) rfl ?_
              have h := New.out h
              refine WL_val gd0 (o_buildSlice (e := 5) (ps := [(0, .int .u8 0)]) (cs := [.int .u8 0]) (partCons rfl partNil) (fun w => by kernel_rfl)) rfl ?_
              generalize hp66 : fresh w21 = p66 at h ⊢
              generalize hw67 : push w21 5 [.int .u8 0] = w67 at h ⊢
              try dsimp only at h
              obtain ⟨b_a68, b_n69, b_c70, w71, r72, h⟩ := h
              refine WL_val gd0 (o_append rfl rfl r72) rfl ?_
              refine WL_val gd0 ((o_nilCheck (by exact (congrArg Value.pointer q58))) _) rfl ?_
              refine WL_val gd0 ((o_fieldAddr 1 Try.underlying53 rfl Try.sizeOf27 rfl rfl rfl) _) rfl ?_
              obtain ⟨c74, h⟩ := h
              refine WL_act gd0 (o_store (v := .slice b_a68 b_n69 b_c70) Try.sizeOf27 rfl rfl rfl c74) ?_
              generalize hw73 : World.setCell w71 (p57.add 1) (.slice b_a68 b_n69 b_c70) = w73 at h ⊢
              try dsimp only at h
              refine WL_nil ?_
              refine nrm ?_
              exact ⟨e0_15, e1_16, e2_17, rfl, e19_18, e20_19, h⟩
            · rw [if_neg (of_decide_eq_false hb61)] at h
              refine WC_skip ?_
              refine nrm ?_
              exact ⟨e0_15, e1_16, e2_17, rfl, e19_18, e20_19, h⟩
          · rintro ρ w30 ⟨e0_24, e1_25, e2_26, e7_27, e19_28, e20_29, h⟩
            unfold F11_j3 at h
            refine WC_seq ?_
            refine WC_region ?_
            refine WL_val gd0 ((o_move (v := .int .u64 n2) (by exact e1_25)) _) rfl ?_
            refine WL_val gd0 ((o_move (v := .int .i64 width3) (by exact e2_26)) _) rfl ?_
            refine WL_val gd0 ((o_sub rfl rfl) _) rfl ?_
            refine WL_val gd0 ((o_move (v := .int .i64 t20) (by exact e7_27)) _) rfl ?_
            refine WL_val gd0 ((o_sub rfl rfl) _) rfl ?_
            obtain ⟨c31, h⟩ := h
            refine WL_val gd0 ((o_shr rfl rfl c31) _) rfl ?_
            refine WL_val gd0 ((o_and rfl rfl) _) rfl ?_
            refine WL_val gd0 ((o_conv Try.underlying31 Try.underlying5 rfl) _) rfl ?_
            refine WL_val gd0 ((o_assign (v := .int .u8 (IntKind.u8.wrap (band .u64 (shr .u64 n2 (IntKind.i64.wrap ((IntKind.i64.wrap (width3 - 1)) - t20))) 1))) rfl) _) rfl ?_
            refine WL_nil ?_
            refine nrm ?_
            refine WC_seq ?_
            refine WC_draws [(0, true), (1, true), (2, true), (3, true), (4, true), (5, true), (6, true), (7, true), (8, true), (9, true), (10, true), (11, true), (12, true), (13, true), (14, true), (15, true), (16, true), (17, true), (18, true), (19, true), (20, true), (21, false)] Try.mixed (by kernel_rfl) ?_
            refine WQ_val rfl gd0 (o_move (v := .pointer w1) (by exact e0_24)) rfl ?_
            obtain ⟨p32, q33, h⟩ := h
            refine WQ_val rfl gd0 (o_nilCheck (by exact (congrArg Value.pointer q33))) rfl ?_
            refine WQ_val rfl gd0 (o_fieldAddr 1 Try.underlying53 rfl Try.sizeOf27 rfl rfl rfl) rfl ?_
            obtain ⟨x_a34, x_n35, x_c36, hc37, h⟩ := h
            refine WQ_look (fun w => w.cell? (p32.add 1) = some (.slice x_a34 x_n35 x_c36)) rfl gd0 (fun w hc => (o_load Try.isAgg27 rfl hc)) hc37 rfl ?_
            refine WQ_val rfl gd0 (o_move (v := .pointer w1) (by exact e0_24)) rfl ?_
            refine WQ_val rfl gd0 (o_nilCheck (by exact (congrArg Value.pointer q33))) rfl ?_
            refine WQ_val rfl gd0 (o_fieldAddr 2 Try.underlying53 rfl Try.sizeOf3 rfl rfl rfl) rfl ?_
            obtain ⟨x38, hc39, h⟩ := h
            refine WQ_look (fun w => w.cell? (p32.add 2) = some (.int .i64 x38)) rfl gd0 (fun w hc => (o_load Try.isAgg3 rfl hc)) hc39 rfl ?_
            refine WQ_val rfl gd0 (fun w => o_quo rfl rfl w (by decide)) rfl ?_
            obtain ⟨p42, q43, h⟩ := h
            obtain ⟨l40, u41, h⟩ := h
            refine WQ_val rfl gd0 (o_indexAddr1 Try.underlying27 Try.sizeOf5 (by exact (congrArg (fun z => Value.slice z x_n35 x_c36) q43)) rfl l40 u41) rfl ?_
            obtain ⟨x44, hc45, h⟩ := h
            refine WQ_look (fun w => w.cell? (p42.add ((IntKind.i64.wrap (Int.tdiv x38 8)).toNat)) = some (.int .u8 x44)) rfl gd0 (fun w hc => (o_load Try.isAgg5 rfl hc)) hc45 rfl ?_
            refine WQ_val rfl gd0 (o_move (v := .int .u8 (IntKind.u8.wrap (band .u64 (shr .u64 n2 (IntKind.i64.wrap ((IntKind.i64.wrap (width3 - 1)) - t20))) 1))) rfl) rfl ?_
            refine WQ_val rfl gd0 (o_move (v := .pointer w1) (by exact e0_24)) rfl ?_
            refine WQ_val rfl gd0 (o_nilCheck (by exact (congrArg Value.pointer q33))) rfl ?_
            refine WQ_val rfl gd0 (o_fieldAddr 2 Try.underlying53 rfl Try.sizeOf3 rfl rfl rfl) rfl ?_
            obtain ⟨x46, hc47, h⟩ := h
            refine WQ_look (fun w => w.cell? (p32.add 2) = some (.int .i64 x46)) rfl gd0 (fun w hc => (o_load Try.isAgg3 rfl hc)) hc47 rfl ?_
            refine WQ_val rfl gd0 (fun w => o_rem rfl rfl w (by decide)) rfl ?_
            refine WQ_val rfl gd0 (o_sub rfl rfl) rfl ?_
            obtain ⟨c48, h⟩ := h
            refine WQ_val rfl gd0 (o_shl rfl rfl c48) rfl ?_
            refine WQ_val rfl gd0 (o_or rfl rfl) rfl ?_
            obtain ⟨l49, u50, h⟩ := h
            refine WQ_val rfl gd0 (o_indexAddr1 Try.underlying27 Try.sizeOf5 (by exact (congrArg (fun z => Value.slice z x_n35 x_c36) q43)) rfl l49 u50) rfl ?_
            obtain ⟨c52, h⟩ := h
            refine WQ_do rfl gd0 (o_store (v := .int .u8 (bor .u8 x44 (shl .u8 (IntKind.u8.wrap (band .u64 (shr .u64 n2 (IntKind.i64.wrap ((IntKind.i64.wrap (width3 - 1)) - t20))) 1)) (IntKind.i64.wrap (7 - (Int.tmod x46 8)))))) Try.sizeOf5 rfl rfl rfl c52) (by exact ⟨⟨⟨⟨trivial, depT (by kernel_rfl)⟩, depT (by kernel_rfl)⟩, depT (by kernel_rfl)⟩, depT (by kernel_rfl)⟩) ?_
            generalize hw51 : World.setCell w30.drew (p42.add ((IntKind.i64.wrap (Int.tdiv x38 8)).toNat)) (.int .u8 (bor .u8 x44 (shl .u8 (IntKind.u8.wrap (band .u64 (shr .u64 n2 (IntKind.i64.wrap ((IntKind.i64.wrap (width3 - 1)) - t20))) 1)) (IntKind.i64.wrap (7 - (Int.tmod x46 8)))))) = w51 at h ⊢
            try dsimp only at h
            refine WQ_nil ?_
            refine nrm ?_
            refine WC_region ?_
            refine WL_val gd0 ((o_move (v := .pointer w1) (by exact e0_24)) _) rfl ?_
            refine WL_val gd0 ((o_nilCheck (by exact (congrArg Value.pointer q33))) _) rfl ?_
            refine WL_val gd0 ((o_fieldAddr 2 Try.underlying53 rfl Try.sizeOf3 rfl rfl rfl) _) rfl ?_
            obtain ⟨x53, hc54, h⟩ := h
            refine WL_val gd0 (o_load Try.isAgg3 rfl hc54) rfl ?_
            refine WL_val gd0 ((o_add rfl rfl) _) rfl ?_
            refine WL_val gd0 ((o_nilCheck (by exact (congrArg Value.pointer q33))) _) rfl ?_
            refine WL_val gd0 ((o_fieldAddr 2 Try.underlying53 rfl Try.sizeOf3 rfl rfl rfl) _) rfl ?_
            obtain ⟨c56, h⟩ := h
            refine WL_act gd0 (o_store (v := .int .i64 (IntKind.i64.wrap (x53 + 1))) Try.sizeOf3 rfl rfl rfl c56) ?_
            generalize hw55 : World.setCell w51 (p32.add 2) (.int .i64 (IntKind.i64.wrap (x53 + 1))) = w55 at h ⊢
            try dsimp only at h
            refine WL_nil ?_
            refine nrmB ?_
            refine nrm ?_
            refine WC_region ?_
            refine WL_val gd0 ((o_add (by exact e20_29) rfl) _) rfl ?_
            refine WL_val gd0 ((o_move (v := .int .i64 (IntKind.i64.wrap (t20 + 1))) rfl) _) rfl ?_
            refine WL_nil ?_
            refine nrm ?_
            obtain ⟨m22, hm22, h⟩ := h
            exact ⟨m22, hm22, _, rfl, e0_24, e1_25, e2_26, e19_28, h⟩
        · rw [if_neg (of_decide_eq_false hb23)] at h
          refine WC_exit ?_
          refine exT ?_
          refine exT ?_
          refine exB ?_
          refine nrm ?_
          refine WC_seq ?_
          refine WC_region ?_
          refine WL_val gd0 ((o_move (v := .pointer w1) (by exact e0_15)) _) rfl ?_
          refine WL_val gd0 ((o_assign (v := .pointer w1) rfl) _) rfl ?_
          refine WL_nil ?_
          refine nrm ?_
          refine WC_ret ?_
          refine rtE ?_
          exact gv1 rfl rfl h

def F12_b1 (w1 : Option Addr) (n2 : Int) (i10 : Int) (w11 : World) (nx11 : Int → World → Prop) (k : Value → World → Prop) : Prop :=
  if 0 ≤ i10 then
  ∃ (p14 : Addr), w1 = some p14 ∧ ∃ (x_a16 : Option Addr) (x_n17 x_c18 : Nat), w11.cell? p14 = some (.slice x_a16 x_n17 x_c18) ∧ (0 : Int) ≤ IntKind.u64.wrap i10 ∧ New w11 5 [.int .u8 (IntKind.u8.wrap (Int.tmod (shr .u64 n2 (IntKind.u64.wrap i10)) 2))] (fun p21 w22 => ∃ (b_a23 : Option Addr) (b_n24 b_c25 : Nat) (w26 : World), (Builtin.append_ #[27, 27] 27 #[.slice x_a16 x_n17 x_c18, .slice (some p21) 1 1]).run Try.prog w22 = .ok (.slice b_a23 b_n24 b_c25) w26 ∧ Put w26 p14 (.slice b_a23 b_n24 b_c25) (fun w28 => nx11 (IntKind.i64.wrap (i10 - 1)) w28))
else
  k (.tuple #[]) w11
/-- (*spacecraft spacecraftref02.Writer).Put -/
def F12 (w1 : Option Addr) (n2 : Int) (width3 : Int) (w4 : World) (k : Value → World → Prop) : Prop :=
  if width3 < 0 then
  k (.tuple #[]) w4
else
  if 64 < width3 then
    k (.tuple #[]) w4
  else
    LoopP (fun (s : Int) w' nx' => F12_b1 w1 n2 s w' (fun x0 w => nx' x0 w) k) (IntKind.i64.wrap (width3 - 1)) w4
set_option maxRecDepth 100000 in
set_option maxHeartbeats 2000000 in
theorem w12 (w1 : Option Addr) (n2 : Int) (width3 : Int) (w4 : World) (k : Value → World → Prop) (h : F12 w1 n2 width3 w4 k) : Does Try.prog 12 #[.pointer w1, .int .u64 n2, .int .i64 width3] w4 k := by
  refine enter 34 Try.func12 rfl rfl rfl ?_
  intro ρ hρ
  have e0 := hρ 0 _ rfl
  have e1 := hρ 1 _ rfl
  have e2 := hρ 2 _ rfl
  unfold F12 at h
  refine WC_seq ?_
  refine WC_seq ?_
  refine WC_region ?_
  refine WL_val gd0 ((o_move (v := .int .i64 width3) (by exact e2)) _) rfl ?_
  refine WL_val gd0 ((o_lss rfl rfl) _) rfl ?_
  refine WL_val gd0 ((o_move (v := .bool (decide (width3 < 0))) rfl) _) rfl ?_
  refine bsplit (decide (width3 < 0)) (fun hb5 => ?_) (fun hb5 => ?_)
  · rw [if_pos (of_decide_eq_true hb5)] at h
    refine WL_skip (gdN (b := (decide (width3 < 0))) 9 rfl rfl hb5) rfl ?_
    refine WL_skip (gdN (b := (decide (width3 < 0))) 9 rfl rfl hb5) rfl ?_
    refine WL_val gd0 ((o_pickT (v := .bool true) rfl hb5 rfl) _) rfl ?_
    refine WL_nil ?_
    refine nrm ?_
    refine WC_cond (t := true) rfl (fun _ => ?_) (fun hx => by rw [(rfl : true = true)] at hx; cases hx)
    refine WC_ret ?_
    refine rtT ?_
    refine rtE ?_
    exact gv0 rfl h
  · rw [if_neg (of_decide_eq_false hb5)] at h
    refine WL_val (gdY (b := (decide (width3 < 0))) 9 rfl rfl hb5) ((o_move (v := .int .i64 width3) (by exact e2)) _) rfl ?_
    refine WL_val (gdY (b := (decide (width3 < 0))) 9 rfl rfl hb5) ((o_gtr rfl rfl) _) rfl ?_
    refine WL_val gd0 ((o_pickF (v := .bool (decide (64 < width3))) rfl hb5 rfl) _) rfl ?_
    refine WL_nil ?_
    refine nrm ?_
    refine WC_cond (t := (decide (64 < width3))) rfl (fun hb6 => ?_) (fun hb6 => ?_)
    · rw [if_pos (of_decide_eq_true hb6)] at h
      refine WC_ret ?_
      refine rtT ?_
      refine rtE ?_
      exact gv0 rfl h
    · rw [if_neg (of_decide_eq_false hb6)] at h
      refine WC_skip ?_
      refine nrm ?_
      refine WC_seq ?_
      refine WC_region ?_
      refine WL_val gd0 ((o_move (v := .int .i64 width3) (by exact e2)) _) rfl ?_
      refine WL_val gd0 ((o_sub rfl rfl) _) rfl ?_
      refine WL_val gd0 ((o_assign (v := .int .i64 (IntKind.i64.wrap (width3 - 1))) rfl) _) rfl ?_
      refine WL_nil ?_
      refine nrm ?_
      refine WC_block ?_
      obtain ⟨J11, ⟨n11, h0⟩, hr11⟩ := h
      refine WC_loop (fun n ρ w' => ∃ (i10 : Int), ρ 6 = .int .i64 i10 ∧ ρ 0 = .pointer w1 ∧ ρ 1 = .int .u64 n2 ∧ J11 n i10 w') ⟨n11, _, rfl, e0, e1, h0⟩ ?_
      rintro n11 ρ w11 ⟨i10, e6_9, e0_7, e1_8, h⟩
      have h : F12_b1 w1 n2 i10 w11 (fun x0 w => ∃ m, m < n11 ∧ J11 m x0 w) k := hr11 n11 i10 w11 h
      unfold F12_b1 at h
      refine WC_seq ?_
      refine WC_seq ?_
      refine WC_region ?_
      refine WL_val gd0 ((o_move (v := .int .i64 i10) (by exact e6_9)) _) rfl ?_
      refine WL_val gd0 ((o_geq rfl rfl) _) rfl ?_
      refine WL_nil ?_
      refine nrm ?_
      refine WC_cond (t := (decide (0 ≤ i10))) rfl (fun hb13 => ?_) (fun hb13 => ?_)
      · rw [if_pos (of_decide_eq_true hb13)] at h
        refine WC_skip ?_
        refine nrm ?_
        refine WC_seq ?_
        refine WC_block ?_
        refine WC_region ?_
        refine WL_val gd0 ((o_move (v := .pointer w1) (by exact e0_7)) _) rfl ?_
        refine WL_val gd0 ((o_move (v := .pointer w1) (by exact e0_7)) _) rfl ?_
        obtain ⟨p14, q15, h⟩ := h
        refine WL_val gd0 ((o_nilCheck (by exact (congrArg Value.pointer q15))) _) rfl ?_
        refine WL_val gd0 ((o_fieldAddr0 Try.underlying29 rfl Try.sizeOf27 rfl rfl rfl) _) rfl ?_
        obtain ⟨x_a16, x_n17, x_c18, hc19, h⟩ := h
        refine WL_val gd0 (o_load Try.isAgg27 rfl hc19) rfl ?_
        refine WL_val gd0 ((o_move (v := .int .u64 n2) (by exact e1_8)) _) rfl ?_
        refine WL_val gd0 ((o_move (v := .int .i64 i10) (by exact e6_9)) _) rfl ?_
        refine WL_val gd0 ((o_conv Try.underlying3 Try.underlying43 rfl) _) rfl ?_
        obtain ⟨c20, h⟩ := h
        refine WL_val gd0 ((o_shr rfl rfl c20) _) rfl ?_
        refine WL_val gd0 ((fun w => o_rem rfl rfl w (by decide)) _) rfl ?_
        refine WL_val gd0 ((o_conv Try.underlying31 Try.underlying5 rfl) _) rfl ?_
        have h := New.out h
        refine WL_val gd0 (o_buildSlice (e := 5) (ps := [(0, .int .u8 (IntKind.u8.wrap (Int.tmod (shr .u64 n2 (IntKind.u64.wrap i10)) 2)))]) (cs := [.int .u8 (IntKind.u8.wrap (Int.tmod (shr .u64 n2 (IntKind.u64.wrap i10)) 2))]) (partCons rfl partNil) (fun w => by kernel_rfl)) rfl ?_
        generalize hp21 : fresh w11 = p21 at h ⊢
        generalize hw22 : push w11 5 [.int .u8 (IntKind.u8.wrap (Int.tmod (shr .u64 n2 (IntKind.u64.wrap i10)) 2))] = w22 at h ⊢
        try dsimp only at h
        obtain ⟨b_a23, b_n24, b_c25, w26, r27, h⟩ := h
        refine WL_val gd0 (o_append rfl rfl r27) rfl ?_
        refine WL_val gd0 ((o_nilCheck (by exact (congrArg Value.pointer q15))) _) rfl ?_
        refine WL_val gd0 ((o_fieldAddr0 Try.underlying29 rfl Try.sizeOf27 rfl rfl rfl) _) rfl ?_
        obtain ⟨c29, h⟩ := h
        refine WL_act gd0 (o_store (v := .slice b_a23 b_n24 b_c25) Try.sizeOf27 rfl rfl rfl c29) ?_
        generalize hw28 : World.setCell w26 p14 (.slice b_a23 b_n24 b_c25) = w28 at h ⊢
        try dsimp only at h
        refine WL_nil ?_
        refine nrmB ?_
        refine nrm ?_
        refine WC_region ?_
        refine WL_val gd0 ((o_move (v := .int .i64 i10) (by exact e6_9)) _) rfl ?_
        refine WL_val gd0 ((o_sub rfl rfl) _) rfl ?_
        refine WL_val gd0 ((o_assign (v := .int .i64 (IntKind.i64.wrap (i10 - 1))) rfl) _) rfl ?_
        refine WL_nil ?_
        refine nrm ?_
        obtain ⟨m12, hm12, h⟩ := h
        exact ⟨m12, hm12, _, rfl, e0_7, e1_8, h⟩
      · rw [if_neg (of_decide_eq_false hb13)] at h
        refine WC_exit ?_
        refine exT ?_
        refine exT ?_
        refine exB ?_
        refine ndE ?_
        exact gv0 rfl h

/-- (*spacecraft bits.Writer).Len -/
def F13 (w1 : Option Addr) (w2 : World) (k : Value → World → Prop) : Prop :=
  Does Try.prog 26 #[.pointer w1] w2 (fun v w3 => ∃ (x4 : Bool), v = .bool x4 ∧ if (!x4) = true then
  k (.int .i64 0) w3
else
  ∃ (p6 : Addr), w1 = some p6 ∧ ∃ (t8 : Int), w3.cell? (p6.add 2) = some (.int .i64 t8) ∧ k (.int .i64 t8) w3)
set_option maxRecDepth 100000 in
set_option maxHeartbeats 2000000 in
theorem w13 (w1 : Option Addr) (w2 : World) (k : Value → World → Prop) (h : F13 w1 w2 k) : Does Try.prog 13 #[.pointer w1] w2 k := by
  refine enter 10 Try.func13 rfl rfl rfl ?_
  intro ρ hρ
  have e0 := hρ 0 _ rfl
  unfold F13 at h
  refine WC_seq ?_
  refine WC_region ?_
  refine WL_val gd0 ((o_assign (v := .int .i64 0) rfl) _) rfl ?_
  refine WL_nil ?_
  refine nrm ?_
  refine WC_seq ?_
  refine WC_seq ?_
  refine WC_region ?_
  refine WL_val gd0 ((o_move (v := .pointer w1) (by exact e0)) _) rfl ?_
  refine WL_call gd0 (o_call Try.call26 (argCons rfl argNil) _) rfl (h.mono ?_)
  rintro _ w3 ⟨x4, rfl, h⟩
  refine WL_val gd0 ((o_not rfl) _) rfl ?_
  refine WL_nil ?_
  refine nrm ?_
  refine WC_cond (t := (!x4)) rfl (fun hb5 => ?_) (fun hb5 => ?_)
  · rw [if_pos hb5] at h
    refine WC_seq ?_
    refine WC_region ?_
    refine WL_val gd0 ((o_assign (v := .int .i64 0) rfl) _) rfl ?_
    refine WL_nil ?_
    refine nrm ?_
    refine WC_ret ?_
    refine rtT ?_
    refine rtE ?_
    exact gv1 rfl rfl h
  · rw [if_neg (neT hb5)] at h
    refine WC_skip ?_
    refine nrm ?_
    refine WC_seq ?_
    refine WC_region ?_
    refine WL_val gd0 ((o_move (v := .pointer w1) (by exact e0)) _) rfl ?_
    obtain ⟨p6, q7, h⟩ := h
    refine WL_val gd0 ((o_nilCheck (by exact (congrArg Value.pointer q7))) _) rfl ?_
    refine WL_val gd0 ((o_fieldAddr 2 Try.underlying53 rfl Try.sizeOf3 rfl rfl rfl) _) rfl ?_
    obtain ⟨t8, hc9, h⟩ := h
    refine WL_val gd0 (o_load Try.isAgg3 rfl hc9) rfl ?_
    refine WL_val gd0 ((o_assign (v := .int .i64 t8) rfl) _) rfl ?_
    refine WL_nil ?_
    refine nrm ?_
    refine WC_ret ?_
    refine rtE ?_
    exact gv1 rfl rfl h

/-- spacecraft spacecraftref02.Same -/
def F14 (a_a1 : Option Addr) (a_n2 : Nat) (a_c3 : Nat) (b_a4 : Option Addr) (b_n5 : Nat) (b_c6 : Nat) (w7 : World) (k : Value → World → Prop) : Prop :=
  ∃ (s8 : ByteArray), (Conv.bytesToString (.slice a_a1 a_n2 a_c3)).run Try.prog w7 = .ok (.string s8) w7 ∧ ∃ (s10 : ByteArray), (Conv.bytesToString (.slice b_a4 b_n5 b_c6)).run Try.prog w7 = .ok (.string s10) w7 ∧ k (.bool (s8.toList == s10.toList)) w7
set_option maxRecDepth 100000 in
set_option maxHeartbeats 2000000 in
theorem w14 (a_a1 : Option Addr) (a_n2 : Nat) (a_c3 : Nat) (b_a4 : Option Addr) (b_n5 : Nat) (b_c6 : Nat) (w7 : World) (k : Value → World → Prop) (h : F14 a_a1 a_n2 a_c3 b_a4 b_n5 b_c6 w7 k) : Does Try.prog 14 #[.slice a_a1 a_n2 a_c3, .slice b_a4 b_n5 b_c6] w7 k := by
  refine enter 10 Try.func14 rfl rfl rfl ?_
  intro ρ hρ
  have e0 := hρ 0 _ rfl
  have e1 := hρ 1 _ rfl
  unfold F14 at h
  refine WC_seq ?_
  refine WC_region ?_
  refine WL_val gd0 ((o_assign (v := .bool false) rfl) _) rfl ?_
  refine WL_nil ?_
  refine nrm ?_
  refine WC_seq ?_
  refine WC_region ?_
  refine WL_val gd0 ((o_move (v := .slice a_a1 a_n2 a_c3) (by exact e0)) _) rfl ?_
  obtain ⟨s8, r9, h⟩ := h
  refine WL_val gd0 (o_toStr Try.underlying27 Try.underlying5 Try.underlying9 rfl r9) rfl ?_
  refine WL_val gd0 ((o_move (v := .slice b_a4 b_n5 b_c6) (by exact e1)) _) rfl ?_
  obtain ⟨s10, r11, h⟩ := h
  refine WL_val gd0 (o_toStr Try.underlying27 Try.underlying5 Try.underlying9 rfl r11) rfl ?_
  refine WL_val gd0 ((o_eqlStr rfl rfl) _) rfl ?_
  refine WL_val gd0 ((o_assign (v := .bool (s8.toList == s10.toList)) rfl) _) rfl ?_
  refine WL_nil ?_
  refine nrm ?_
  refine WC_ret ?_
  refine rtE ?_
  exact gv1 rfl rfl h

/-- (*spacecraft bits.Writer).Bytes -/
def F15 (w1 : Option Addr) (w2 : World) (k : Value → World → Prop) : Prop :=
  Does Try.prog 26 #[.pointer w1] w2 (fun v w3 => ∃ (x4 : Bool), v = .bool x4 ∧ if (!x4) = true then
  k (.slice none 0 0) w3
else
  New w3 5 [] (fun p6 w7 => ∃ (p8 : Addr), w1 = some p8 ∧ ∃ (x_a10 : Option Addr) (x_n11 x_c12 : Nat), w7.cell? (p8.add 1) = some (.slice x_a10 x_n11 x_c12) ∧ ∃ (b_a14 : Option Addr) (b_n15 b_c16 : Nat) (w17 : World), (Builtin.append_ #[27, 27] 27 #[.slice (some p6) 0 0, .slice x_a10 x_n11 x_c12]).run Try.prog w7 = .ok (.slice b_a14 b_n15 b_c16) w17 ∧ k (.slice b_a14 b_n15 b_c16) w17))
set_option maxRecDepth 100000 in
set_option maxHeartbeats 2000000 in
theorem w15 (w1 : Option Addr) (w2 : World) (k : Value → World → Prop) (h : F15 w1 w2 k) : Does Try.prog 15 #[.pointer w1] w2 k := by
  refine enter 12 Try.func15 rfl rfl rfl ?_
  intro ρ hρ
  have e0 := hρ 0 _ rfl
  unfold F15 at h
  refine WC_seq ?_
  refine WC_region ?_
  refine WL_val gd0 ((o_assign (v := .slice none 0 0) rfl) _) rfl ?_
  refine WL_nil ?_
  refine nrm ?_
  refine WC_seq ?_
  refine WC_seq ?_
  refine WC_region ?_
  refine WL_val gd0 ((o_move (v := .pointer w1) (by exact e0)) _) rfl ?_
  refine WL_call gd0 (o_call Try.call26 (argCons rfl argNil) _) rfl (h.mono ?_)
  rintro _ w3 ⟨x4, rfl, h⟩
  refine WL_val gd0 ((o_not rfl) _) rfl ?_
  refine WL_nil ?_
  refine nrm ?_
  refine WC_cond (t := (!x4)) rfl (fun hb5 => ?_) (fun hb5 => ?_)
  · rw [if_pos hb5] at h
    refine WC_seq ?_
    refine WC_region ?_
    refine WL_val gd0 ((o_assign (v := .slice none 0 0) rfl) _) rfl ?_
    refine WL_nil ?_
    refine nrm ?_
    refine WC_ret ?_
    refine rtT ?_
    refine rtE ?_
    exact gv1 rfl rfl h
  · rw [if_neg (neT hb5)] at h
    refine WC_skip ?_
    refine nrm ?_
    refine WC_seq ?_
    refine WC_region ?_
    have h := New.out h
    refine WL_val gd0 (o_buildSlice (e := 5) (ps := []) (cs := []) partNil (fun w => by kernel_rfl)) rfl ?_
    generalize hp6 : fresh w3 = p6 at h ⊢
    generalize hw7 : push w3 5 [] = w7 at h ⊢
    try dsimp only at h
    refine WL_val gd0 ((o_move (v := .pointer w1) (by exact e0)) _) rfl ?_
    obtain ⟨p8, q9, h⟩ := h
    refine WL_val gd0 ((o_nilCheck (by exact (congrArg Value.pointer q9))) _) rfl ?_
    refine WL_val gd0 ((o_fieldAddr 1 Try.underlying53 rfl Try.sizeOf27 rfl rfl rfl) _) rfl ?_
    obtain ⟨x_a10, x_n11, x_c12, hc13, h⟩ := h
    refine WL_val gd0 (o_load Try.isAgg27 rfl hc13) rfl ?_
    obtain ⟨b_a14, b_n15, b_c16, w17, r18, h⟩ := h
    refine WL_val gd0 (o_append rfl rfl r18) rfl ?_
    refine WL_val gd0 ((o_assign (v := .slice b_a14 b_n15 b_c16) rfl) _) rfl ?_
    refine WL_nil ?_
    refine nrm ?_
    refine WC_ret ?_
    refine rtE ?_
    exact gv1 rfl rfl h

def F16_j2 (p12 : Addr) (i9 : Int) (out_a21 : Option Addr) (out_n22 : Nat) (out_c23 : Nat) (w25 : World) (nx10 : Option Addr → Nat → Nat → Int → World → Prop) : Prop :=
  ∃ (x_a26 : Option Addr) (x_n27 x_c28 : Nat), w25.cell? p12 = some (.slice x_a26 x_n27 x_c28) ∧ ∃ (p32 : Addr), x_a26 = some p32 ∧ (0 : Int) ≤ i9 ∧ i9 < (x_n27 : Int) ∧ ∃ (x34 : Int), w25.cell? (p32.add i9.toNat) = some (.int .u8 x34) ∧ if x34 = 1 then
  ∃ (p39 : Addr), out_a21 = some p39 ∧ (0 : Int) ≤ IntKind.i64.wrap ((out_n22 : Int) - 1) ∧ IntKind.i64.wrap ((out_n22 : Int) - 1) < (out_n22 : Int) ∧ ∃ (x41 : Int), w25.cell? (p39.add ((IntKind.i64.wrap ((out_n22 : Int) - 1)).toNat)) = some (.int .u8 x41) ∧ (0 : Int) ≤ IntKind.u64.wrap (Int.tmod i9 8) ∧ (0 : Int) ≤ IntKind.i64.wrap ((out_n22 : Int) - 1) ∧ IntKind.i64.wrap ((out_n22 : Int) - 1) < (out_n22 : Int) ∧ Put w25 (p39.add ((IntKind.i64.wrap ((out_n22 : Int) - 1)).toNat)) (.int .u8 (IntKind.u8.wrap (x41 + (shr .u8 128 (IntKind.u64.wrap (Int.tmod i9 8)))))) (fun w46 => nx10 out_a21 out_n22 out_c23 (IntKind.i64.wrap (i9 + 1)) w46)
else
  nx10 out_a21 out_n22 out_c23 (IntKind.i64.wrap (i9 + 1)) w25
def F16_b1 (w1 : Option Addr) (out_a5 : Option Addr) (out_n6 : Nat) (out_c7 : Nat) (i9 : Int) (w10 : World) (nx10 : Option Addr → Nat → Nat → Int → World → Prop) (k : Value → World → Prop) : Prop :=
  ∃ (p12 : Addr), w1 = some p12 ∧ ∃ (x_a14 : Option Addr) (x_n15 x_c16 : Nat), w10.cell? p12 = some (.slice x_a14 x_n15 x_c16) ∧ if i9 < (x_n15 : Int) then
  if (Int.tmod i9 8) = 0 then
    New w10 5 [.int .u8 0] (fun p49 w50 => ∃ (b_a51 : Option Addr) (b_n52 b_c53 : Nat) (w54 : World), (Builtin.append_ #[27, 27] 27 #[.slice out_a5 out_n6 out_c7, .slice (some p49) 1 1]).run Try.prog w50 = .ok (.slice b_a51 b_n52 b_c53) w54 ∧ F16_j2 p12 i9 b_a51 b_n52 b_c53 w54 nx10)
  else
    F16_j2 p12 i9 out_a5 out_n6 out_c7 w10 nx10
else
  k (.slice out_a5 out_n6 out_c7) w10
/-- (*spacecraft spacecraftref02.Writer).Bytes -/
def F16 (w1 : Option Addr) (w2 : World) (k : Value → World → Prop) : Prop :=
  LoopP (fun (s : Option Addr × Nat × Nat × Int) w' nx' => F16_b1 w1 (s.1) (s.2.1) (s.2.2.1) (s.2.2.2) w' (fun x0 x1 x2 x3 w => nx' (x0, x1, x2, x3) w) k) (none, 0, 0, 0) w2
set_option maxRecDepth 100000 in
set_option maxHeartbeats 2000000 in
theorem w16 (w1 : Option Addr) (w2 : World) (k : Value → World → Prop) (h : F16 w1 w2 k) : Does Try.prog 16 #[.pointer w1] w2 k := by
  refine enter 45 Try.func16 rfl rfl rfl ?_
  intro ρ hρ
  have e0 := hρ 0 _ rfl
  unfold F16 at h
  refine WC_seq ?_
  refine WC_region ?_
  refine WL_val gd0 ((o_assign (v := .slice none 0 0) rfl) _) rfl ?_
  refine WL_nil ?_
  refine nrm ?_
  refine WC_seq ?_
  refine WC_region ?_
  refine WL_val gd0 ((o_assign (v := .slice none 0 0) rfl) _) rfl ?_
  refine WL_nil ?_
  refine nrm ?_
  refine WC_seq ?_
  refine WC_seq ?_
  refine WC_region ?_
  refine WL_val gd0 ((o_assign (v := .int .i64 0) rfl) _) rfl ?_
  refine WL_nil ?_
  refine nrm ?_
  refine WC_block ?_
  obtain ⟨J10, ⟨n10, h0⟩, hr10⟩ := h
  refine WC_loop (fun n ρ w' => ∃ (out_a5 : Option Addr) (out_n6 out_c7 : Nat) (i9 : Int), ρ 3 = .slice out_a5 out_n6 out_c7 ∧ ρ 4 = .int .i64 i9 ∧ ρ 0 = .pointer w1 ∧ J10 n (out_a5, out_n6, out_c7, i9) w') ⟨n10, _, _, _, _, rfl, rfl, e0, h0⟩ ?_
  rintro n10 ρ w10 ⟨out_a5, out_n6, out_c7, i9, e3_4, e4_8, e0_3, h⟩
  have h : F16_b1 w1 out_a5 out_n6 out_c7 i9 w10 (fun x0 x1 x2 x3 w => ∃ m, m < n10 ∧ J10 m (x0, x1, x2, x3) w) k := hr10 n10 (out_a5, out_n6, out_c7, i9) w10 h
  unfold F16_b1 at h
  refine WC_seq ?_
  refine WC_seq ?_
  refine WC_region ?_
  refine WL_val gd0 ((o_move (v := .int .i64 i9) (by exact e4_8)) _) rfl ?_
  refine WL_val gd0 ((o_move (v := .pointer w1) (by exact e0_3)) _) rfl ?_
  obtain ⟨p12, q13, h⟩ := h
  refine WL_val gd0 ((o_nilCheck (by exact (congrArg Value.pointer q13))) _) rfl ?_
  refine WL_val gd0 ((o_fieldAddr0 Try.underlying29 rfl Try.sizeOf27 rfl rfl rfl) _) rfl ?_
  obtain ⟨x_a14, x_n15, x_c16, hc17, h⟩ := h
  refine WL_val gd0 (o_load Try.isAgg27 rfl hc17) rfl ?_
  refine WL_val gd0 ((o_len Try.underlying27 rfl) _) rfl ?_
  refine WL_val gd0 ((o_lss rfl rfl) _) rfl ?_
  refine WL_nil ?_
  refine nrm ?_
  refine WC_cond (t := (decide (i9 < (x_n15 : Int)))) rfl (fun hb18 => ?_) (fun hb18 => ?_)
  · rw [if_pos (of_decide_eq_true hb18)] at h
    refine WC_skip ?_
    refine nrm ?_
    refine WC_seq ?_
    refine WC_block ?_
    refine WC_cut (fun ρ w' => ∃ (out_a21 : Option Addr) (out_n22 out_c23 : Nat), ρ 3 = .slice out_a21 out_n22 out_c23 ∧ ρ 0 = .pointer w1 ∧ ρ 4 = .int .i64 i9 ∧ F16_j2 p12 i9 out_a21 out_n22 out_c23 w' (fun x0 x1 x2 x3 w => ∃ m, m < n10 ∧ J10 m (x0, x1, x2, x3) w)) ?_ ?_
    · refine WC_seq ?_
      refine WC_region ?_
      refine WL_val gd0 ((o_move (v := .int .i64 i9) (by exact e4_8)) _) rfl ?_
      refine WL_val gd0 ((fun w => o_rem rfl rfl w (by decide)) _) rfl ?_
      refine WL_val gd0 ((o_eql rfl rfl) _) rfl ?_
      refine WL_nil ?_
      refine nrm ?_
      refine WC_cond (t := (decide ((Int.tmod i9 8) = 0))) rfl (fun hb48 => ?_) (fun hb48 => ?_)
      · rw [if_pos (of_decide_eq_true hb48)] at h
        refine WC_region ?_
        refine WL_val gd0 ((o_move (v := .slice out_a5 out_n6 out_c7) (by exact e3_4)) _) rfl ?_
        have h := New.out h
        refine WL_val gd0 (o_buildSlice (e := 5) (ps := [(0, .int .u8 0)]) (cs := [.int .u8 0]) (partCons rfl partNil) (fun w => by kernel_rfl)) rfl ?_
        generalize hp49 : fresh w10 = p49 at h ⊢
        generalize hw50 : push w10 5 [.int .u8 0] = w50 at h ⊢
        try dsimp only at h
        obtain ⟨b_a51, b_n52, b_c53, w54, r55, h⟩ := h
        refine WL_val gd0 (o_append rfl rfl r55) rfl ?_
        refine WL_val gd0 ((o_assign (v := .slice b_a51 b_n52 b_c53) rfl) _) rfl ?_
        refine WL_nil ?_
        refine nrm ?_
        exact ⟨_, _, _, rfl, e0_3, e4_8, h⟩
      · rw [if_neg (of_decide_eq_false hb48)] at h
        refine WC_skip ?_
        refine nrm ?_
        exact ⟨_, _, _, e3_4, e0_3, e4_8, h⟩
    · rintro ρ w25 ⟨out_a21, out_n22, out_c23, e3_20, e0_19, e4_24, h⟩
      unfold F16_j2 at h
      refine WC_seq ?_
      refine WC_region ?_
      refine WL_val gd0 ((o_move (v := .pointer w1) (by exact e0_19)) _) rfl ?_
      refine WL_val gd0 ((o_nilCheck (by exact (congrArg Value.pointer q13))) _) rfl ?_
      refine WL_val gd0 ((o_fieldAddr0 Try.underlying29 rfl Try.sizeOf27 rfl rfl rfl) _) rfl ?_
      obtain ⟨x_a26, x_n27, x_c28, hc29, h⟩ := h
      refine WL_val gd0 (o_load Try.isAgg27 rfl hc29) rfl ?_
      refine WL_val gd0 ((o_move (v := .int .i64 i9) (by exact e4_24)) _) rfl ?_
      obtain ⟨p32, q33, h⟩ := h
      obtain ⟨l30, u31, h⟩ := h
      refine WL_val gd0 ((o_indexAddr1 Try.underlying27 Try.sizeOf5 (by exact (congrArg (fun z => Value.slice z x_n27 x_c28) q33)) rfl l30 u31) _) rfl ?_
      obtain ⟨x34, hc35, h⟩ := h
      refine WL_val gd0 (o_load Try.isAgg5 rfl hc35) rfl ?_
      refine WL_val gd0 ((o_eql rfl rfl) _) rfl ?_
      refine WL_nil ?_
      refine nrm ?_
      refine WC_cond (t := (decide (x34 = 1))) rfl (fun hb36 => ?_) (fun hb36 => ?_)
      · rw [if_pos (of_decide_eq_true hb36)] at h
        refine WC_region ?_
        refine WL_val gd0 ((o_move (v := .slice out_a21 out_n22 out_c23) (by exact e3_20)) _) rfl ?_
        refine WL_val gd0 ((o_move (v := .slice out_a21 out_n22 out_c23) (by exact e3_20)) _) rfl ?_
        refine WL_val gd0 ((o_len Try.underlying27 rfl) _) rfl ?_
        refine WL_val gd0 ((o_sub rfl rfl) _) rfl ?_
        refine WL_val gd0 ((o_move (v := .slice out_a21 out_n22 out_c23) (by exact e3_20)) _) rfl ?_
        refine WL_val gd0 ((o_move (v := .slice out_a21 out_n22 out_c23) (by exact e3_20)) _) rfl ?_
        refine WL_val gd0 ((o_len Try.underlying27 rfl) _) rfl ?_
        refine WL_val gd0 ((o_sub rfl rfl) _) rfl ?_
        obtain ⟨p39, q40, h⟩ := h
        obtain ⟨l37, u38, h⟩ := h
        refine WL_val gd0 ((o_indexAddr1 Try.underlying27 Try.sizeOf5 (by exact (congrArg (fun z => Value.slice z out_n22 out_c23) q40)) rfl l37 u38) _) rfl ?_
        obtain ⟨x41, hc42, h⟩ := h
        refine WL_val gd0 (o_load Try.isAgg5 rfl hc42) rfl ?_
        refine WL_val gd0 ((o_move (v := .int .i64 i9) (by exact e4_24)) _) rfl ?_
        refine WL_val gd0 ((fun w => o_rem rfl rfl w (by decide)) _) rfl ?_
        refine WL_val gd0 ((o_conv Try.underlying3 Try.underlying43 rfl) _) rfl ?_
        obtain ⟨c43, h⟩ := h
        refine WL_val gd0 ((o_shr rfl rfl c43) _) rfl ?_
        refine WL_val gd0 ((o_add rfl rfl) _) rfl ?_
        obtain ⟨l44, u45, h⟩ := h
        refine WL_val gd0 ((o_indexAddr1 Try.underlying27 Try.sizeOf5 (by exact (congrArg (fun z => Value.slice z out_n22 out_c23) q40)) rfl l44 u45) _) rfl ?_
        obtain ⟨c47, h⟩ := h
        refine WL_act gd0 (o_store (v := .int .u8 (IntKind.u8.wrap (x41 + (shr .u8 128 (IntKind.u64.wrap (Int.tmod i9 8)))))) Try.sizeOf5 rfl rfl rfl c47) ?_
        generalize hw46 : World.setCell w25 (p39.add ((IntKind.i64.wrap ((out_n22 : Int) - 1)).toNat)) (.int .u8 (IntKind.u8.wrap (x41 + (shr .u8 128 (IntKind.u64.wrap (Int.tmod i9 8)))))) = w46 at h ⊢
        try dsimp only at h
        refine WL_nil ?_
        refine nrmB ?_
        refine nrm ?_
        refine WC_region ?_
        refine WL_val gd0 ((o_move (v := .int .i64 i9) (by exact e4_24)) _) rfl ?_
        refine WL_val gd0 ((o_add rfl rfl) _) rfl ?_
        refine WL_val gd0 ((o_assign (v := .int .i64 (IntKind.i64.wrap (i9 + 1))) rfl) _) rfl ?_
        refine WL_nil ?_
        refine nrm ?_
        obtain ⟨m11, hm11, h⟩ := h
        exact ⟨m11, hm11, _, _, _, _, e3_20, rfl, e0_19, h⟩
      · rw [if_neg (of_decide_eq_false hb36)] at h
        refine WC_skip ?_
        refine nrmB ?_
        refine nrm ?_
        refine WC_region ?_
        refine WL_val gd0 ((o_move (v := .int .i64 i9) (by exact e4_24)) _) rfl ?_
        refine WL_val gd0 ((o_add rfl rfl) _) rfl ?_
        refine WL_val gd0 ((o_assign (v := .int .i64 (IntKind.i64.wrap (i9 + 1))) rfl) _) rfl ?_
        refine WL_nil ?_
        refine nrm ?_
        obtain ⟨m11, hm11, h⟩ := h
        exact ⟨m11, hm11, _, _, _, _, e3_20, rfl, e0_19, h⟩
  · rw [if_neg (of_decide_eq_false hb18)] at h
    refine WC_exit ?_
    refine exT ?_
    refine exT ?_
    refine exB ?_
    refine nrm ?_
    refine WC_seq ?_
    refine WC_region ?_
    refine WL_val gd0 ((o_move (v := .slice out_a5 out_n6 out_c7) (by exact e3_4)) _) rfl ?_
    refine WL_val gd0 ((o_assign (v := .slice out_a5 out_n6 out_c7) rfl) _) rfl ?_
    refine WL_nil ?_
    refine nrm ?_
    refine WC_ret ?_
    refine rtE ?_
    exact gv1 rfl rfl h

/-- spacecraft bits.NewReader -/
def F17 (b_a1 : Option Addr) (b_n2 : Nat) (b_c3 : Nat) (w4 : World) (k : Value → World → Prop) : Prop :=
  New w4 5 [] (fun p5 w6 => ∃ (b_a7 : Option Addr) (b_n8 b_c9 : Nat) (w10 : World), (Builtin.append_ #[27, 27] 27 #[.slice (some p5) 0 0, .slice b_a1 b_n2 b_c3]).run Try.prog w6 = .ok (.slice b_a7 b_n8 b_c9) w10 ∧ New w10 55 [.bool true, .slice b_a7 b_n8 b_c9, .int .i64 0, .bool false] (fun p12 w13 => k (.pointer (some p12)) w13))
set_option maxRecDepth 100000 in
set_option maxHeartbeats 2000000 in
theorem w17 (b_a1 : Option Addr) (b_n2 : Nat) (b_c3 : Nat) (w4 : World) (k : Value → World → Prop) (h : F17 b_a1 b_n2 b_c3 w4 k) : Does Try.prog 17 #[.slice b_a1 b_n2 b_c3] w4 k := by
  refine enter 8 Try.func17 rfl rfl rfl ?_
  intro ρ hρ
  have e0 := hρ 0 _ rfl
  unfold F17 at h
  refine WC_seq ?_
  refine WC_region ?_
  refine WL_val gd0 ((o_assign (v := .pointer none) rfl) _) rfl ?_
  refine WL_nil ?_
  refine nrm ?_
  refine WC_seq ?_
  refine WC_region ?_
  have h := New.out h
  refine WL_val gd0 (o_buildSlice (e := 5) (ps := []) (cs := []) partNil (fun w => by kernel_rfl)) rfl ?_
  generalize hp5 : fresh w4 = p5 at h ⊢
  generalize hw6 : push w4 5 [] = w6 at h ⊢
  try dsimp only at h
  refine WL_val gd0 ((o_move (v := .slice b_a1 b_n2 b_c3) (by exact e0)) _) rfl ?_
  obtain ⟨b_a7, b_n8, b_c9, w10, r11, h⟩ := h
  refine WL_val gd0 (o_append rfl rfl r11) rfl ?_
  refine WL_val gd0 ((o_build (ps := [(0, .bool true), (1, .slice b_a7 b_n8 b_c9)]) (v := .agg #[.bool true, .slice b_a7 b_n8 b_c9, .int .i64 0, .bool false]) (partCons rfl (partCons rfl partNil)) (fun w => by kernel_rfl)) _) rfl ?_
  have h := New.out h
  refine WL_val gd0 (o_box (v := .agg #[.bool true, .slice b_a7 b_n8 b_c9, .int .i64 0, .bool false]) (cs := [.bool true, .slice b_a7 b_n8 b_c9, .int .i64 0, .bool false]) rfl rfl) rfl ?_
  generalize hp12 : fresh w10 = p12 at h ⊢
  generalize hw13 : push w10 55 [.bool true, .slice b_a7 b_n8 b_c9, .int .i64 0, .bool false] = w13 at h ⊢
  try dsimp only at h
  refine WL_val gd0 ((o_assign (v := .pointer (some p12)) rfl) _) rfl ?_
  refine WL_nil ?_
  refine nrm ?_
  refine WC_ret ?_
  refine rtE ?_
  exact gv1 rfl rfl h

def F18_b2 (width2 : Int) (r1 : Option Addr) (n19 : Int) (t22 : Int) (w23 : World) (nx23 : Int → Int → World → Prop) (k : Value → World → Prop) : Prop :=
  if t22 < width2 then
  ∃ (p26 : Addr), r1 = some p26 ∧ ∃ (x_a28 : Option Addr) (x_n29 x_c30 : Nat), w23.drew.cell? (p26.add 1) = some (.slice x_a28 x_n29 x_c30) ∧ ∃ (x32 : Int), w23.drew.cell? (p26.add 2) = some (.int .i64 x32) ∧ ∃ (p36 : Addr), x_a28 = some p36 ∧ (0 : Int) ≤ IntKind.i64.wrap (Int.tdiv x32 8) ∧ IntKind.i64.wrap (Int.tdiv x32 8) < (x_n29 : Int) ∧ ∃ (x38 : Int), w23.drew.cell? (p36.add ((IntKind.i64.wrap (Int.tdiv x32 8)).toNat)) = some (.int .u8 x38) ∧ ∃ (x40 : Int), w23.drew.cell? (p26.add 2) = some (.int .i64 x40) ∧ (0 : Int) ≤ IntKind.i64.wrap (7 - (Int.tmod x40 8)) ∧ ∃ (x43 : Int), w23.drew.cell? (p26.add 2) = some (.int .i64 x43) ∧ Put w23.drew (p26.add 2) (.int .i64 (IntKind.i64.wrap (x43 + 1))) (fun w45 => nx23 (bor .u64 (shl .u64 n19 1) (IntKind.u64.wrap (band .u8 (shr .u8 x38 (IntKind.i64.wrap (7 - (Int.tmod x40 8)))) 1))) (IntKind.i64.wrap (t22 + 1)) w45)
else
  k (.int .u64 n19) w23
def F18_j1 (r1 : Option Addr) (width2 : Int) (t10 : Bool) (w11 : World) (k : Value → World → Prop) : Prop :=
  if t10 = true then
  ∃ (p13 : Addr), r1 = some p13 ∧ Put w11 (p13.add 3) (.bool true) (fun w15 => k (.int .u64 0) w15)
else
  LoopP (fun (s : Int × Int) w' nx' => F18_b2 width2 r1 (s.1) (s.2) w' (fun x0 x1 w => nx' (x0, x1) w) k) (0, 0) w11
/-- (*spacecraft bits.Reader).Get -/
def F18 (r1 : Option Addr) (width2 : Int) (w3 : World) (k : Value → World → Prop) : Prop :=
  Does Try.prog 27 #[.pointer r1] w3 (fun v w4 => ∃ (x5 : Bool), v = .bool x5 ∧ if (!x5) = true then
  k (.int .u64 0) w4
else
  if width2 < 0 then
    F18_j1 r1 width2 true w4 k
  else
    if 64 < width2 then
      F18_j1 r1 width2 true w4 k
    else
      Does Try.prog 20 #[.pointer r1] w4 (fun v w49 => ∃ (x50 : Int), v = .int .i64 x50 ∧ F18_j1 r1 width2 (decide (x50 < width2)) w49 k))
set_option maxRecDepth 100000 in
set_option maxHeartbeats 2000000 in
theorem w18 (r1 : Option Addr) (width2 : Int) (w3 : World) (k : Value → World → Prop) (h : F18 r1 width2 w3 k) : Does Try.prog 18 #[.pointer r1, .int .i64 width2] w3 k := by
  refine enter 59 Try.func18 rfl rfl rfl ?_
  intro ρ hρ
  have e0 := hρ 0 _ rfl
  have e1 := hρ 1 _ rfl
  unfold F18 at h
  refine WC_seq ?_
  refine WC_region ?_
  refine WL_val gd0 ((o_assign (v := .int .u64 0) rfl) _) rfl ?_
  refine WL_nil ?_
  refine nrm ?_
  refine WC_seq ?_
  refine WC_seq ?_
  refine WC_region ?_
  refine WL_val gd0 ((o_move (v := .pointer r1) (by exact e0)) _) rfl ?_
  refine WL_call gd0 (o_call Try.call27 (argCons rfl argNil) _) rfl (h.mono ?_)
  rintro _ w4 ⟨x5, rfl, h⟩
  refine WL_val gd0 ((o_not rfl) _) rfl ?_
  refine WL_nil ?_
  refine nrm ?_
  refine WC_cond (t := (!x5)) rfl (fun hb6 => ?_) (fun hb6 => ?_)
  · rw [if_pos hb6] at h
    refine WC_seq ?_
    refine WC_region ?_
    refine WL_val gd0 ((o_assign (v := .int .u64 0) rfl) _) rfl ?_
    refine WL_nil ?_
    refine nrm ?_
    refine WC_ret ?_
    refine rtT ?_
    refine rtE ?_
    exact gv1 rfl rfl h
  · rw [if_neg (neT hb6)] at h
    refine WC_skip ?_
    refine nrm ?_
    refine WC_seq ?_
    refine WC_cut (fun ρ w' => ∃ (t10 : Bool), ρ 20 = .bool t10 ∧ ρ 0 = .pointer r1 ∧ ρ 1 = .int .i64 width2 ∧ F18_j1 r1 width2 t10 w' k) ?_ ?_
    · refine WC_region ?_
      refine WL_val gd0 ((o_move (v := .int .i64 width2) (by exact e1)) _) rfl ?_
      refine WL_val gd0 ((o_lss rfl rfl) _) rfl ?_
      refine WL_val gd0 ((o_move (v := .bool (decide (width2 < 0))) rfl) _) rfl ?_
      refine bsplit (decide (width2 < 0)) (fun hb47 => ?_) (fun hb47 => ?_)
      · rw [if_pos (of_decide_eq_true hb47)] at h
        refine WL_skip (gdN (b := (decide (width2 < 0))) 11 rfl rfl hb47) rfl ?_
        refine WL_skip (gdN (b := (decide (width2 < 0))) 11 rfl rfl hb47) rfl ?_
        refine WL_val gd0 ((o_pickT (v := .bool true) rfl hb47 rfl) _) rfl ?_
        refine WL_val gd0 ((o_move (v := .bool true) rfl) _) rfl ?_
        refine WL_skip (gdN (b := true) 15 rfl rfl rfl) rfl ?_
        refine WL_skip (gdN (b := true) 15 rfl rfl rfl) rfl ?_
        refine WL_skip (gdN (b := true) 15 rfl rfl rfl) rfl ?_
        refine WL_skip (gdN (b := true) 15 rfl rfl rfl) rfl ?_
        refine WL_val gd0 ((o_pickT (v := .bool true) rfl rfl rfl) _) rfl ?_
        refine WL_nil ?_
        refine nrm ?_
        exact ⟨_, rfl, e0, e1, h⟩
      · rw [if_neg (of_decide_eq_false hb47)] at h
        refine WL_val (gdY (b := (decide (width2 < 0))) 11 rfl rfl hb47) ((o_move (v := .int .i64 width2) (by exact e1)) _) rfl ?_
        refine WL_val (gdY (b := (decide (width2 < 0))) 11 rfl rfl hb47) ((o_gtr rfl rfl) _) rfl ?_
        refine WL_val gd0 ((o_pickF (v := .bool (decide (64 < width2))) rfl hb47 rfl) _) rfl ?_
        refine WL_val gd0 ((o_move (v := .bool (decide (64 < width2))) rfl) _) rfl ?_
        refine bsplit (decide (64 < width2)) (fun hb48 => ?_) (fun hb48 => ?_)
        · rw [if_pos (of_decide_eq_true hb48)] at h
          refine WL_skip (gdN (b := (decide (64 < width2))) 15 rfl rfl hb48) rfl ?_
          refine WL_skip (gdN (b := (decide (64 < width2))) 15 rfl rfl hb48) rfl ?_
          refine WL_skip (gdN (b := (decide (64 < width2))) 15 rfl rfl hb48) rfl ?_
          refine WL_skip (gdN (b := (decide (64 < width2))) 15 rfl rfl hb48) rfl ?_
          refine WL_val gd0 ((o_pickT (v := .bool true) rfl hb48 rfl) _) rfl ?_
          refine WL_nil ?_
          refine nrm ?_
          exact ⟨_, rfl, e0, e1, h⟩
        · rw [if_neg (of_decide_eq_false hb48)] at h
          refine WL_val (gdY (b := (decide (64 < width2))) 15 rfl rfl hb48) ((o_move (v := .int .i64 width2) (by exact e1)) _) rfl ?_
          refine WL_val (gdY (b := (decide (64 < width2))) 15 rfl rfl hb48) ((o_move (v := .pointer r1) (by exact e0)) _) rfl ?_
          refine WL_call (gdY (b := (decide (64 < width2))) 15 rfl rfl hb48) (o_call Try.call20 (argCons rfl argNil) _) rfl (h.mono ?_)
          rintro _ w49 ⟨x50, rfl, h⟩
          refine WL_val (gdY (b := (decide (64 < width2))) 15 rfl rfl hb48) ((o_gtr rfl rfl) _) rfl ?_
          refine WL_val gd0 ((o_pickF (v := .bool (decide (x50 < width2))) rfl hb48 rfl) _) rfl ?_
          refine WL_nil ?_
          refine nrm ?_
          exact ⟨_, rfl, e0, e1, h⟩
    · rintro ρ w11 ⟨t10, e20_9, e0_7, e1_8, h⟩
      unfold F18_j1 at h
      refine WC_cond (t := t10) (by exact e20_9) (fun hb12 => ?_) (fun hb12 => ?_)
      · rw [if_pos hb12] at h
        refine WC_seq ?_
        refine WC_region ?_
        refine WL_val gd0 ((o_move (v := .pointer r1) (by exact e0_7)) _) rfl ?_
        obtain ⟨p13, q14, h⟩ := h
        refine WL_val gd0 ((o_nilCheck (by exact (congrArg Value.pointer q14))) _) rfl ?_
        refine WL_val gd0 ((o_fieldAddr 3 Try.underlying55 rfl Try.sizeOf4 rfl rfl rfl) _) rfl ?_
        obtain ⟨c16, h⟩ := h
        refine WL_act gd0 (o_store (v := .bool true) Try.sizeOf4 rfl rfl rfl c16) ?_
        generalize hw15 : World.setCell w11 (p13.add 3) (.bool true) = w15 at h ⊢
        try dsimp only at h
        refine WL_nil ?_
        refine nrm ?_
        refine WC_seq ?_
        refine WC_region ?_
        refine WL_val gd0 ((o_assign (v := .int .u64 0) rfl) _) rfl ?_
        refine WL_nil ?_
        refine nrm ?_
        refine WC_ret ?_
        refine rtT ?_
        refine rtE ?_
        exact gv1 rfl rfl h
      · rw [if_neg (neT hb12)] at h
        refine WC_skip ?_
        refine nrm ?_
        refine WC_seq ?_
        refine WC_region ?_
        refine WL_val gd0 ((o_assign (v := .int .u64 0) rfl) _) rfl ?_
        refine WL_nil ?_
        refine nrm ?_
        refine WC_seq ?_
        refine WC_seq ?_
        refine WC_region ?_
        refine WL_val gd0 ((o_move (v := .int .i64 width2) (by exact e1_8)) _) rfl ?_
        refine WL_val gd0 ((o_move (v := .int .i64 0) rfl) _) rfl ?_
        refine WL_nil ?_
        refine nrm ?_
        refine WC_block ?_
        obtain ⟨J23, ⟨n23, h0⟩, hr23⟩ := h
        refine WC_loop (fun n ρ w' => ∃ (n19 t22 : Int), ρ 5 = .int .u64 n19 ∧ ρ 25 = .int .i64 t22 ∧ ρ 0 = .pointer r1 ∧ ρ 24 = .int .i64 width2 ∧ J23 n (n19, t22) w') ⟨n23, _, _, rfl, rfl, e0_7, rfl, h0⟩ ?_
        rintro n23 ρ w23 ⟨n19, t22, e5_18, e25_21, e0_17, e24_20, h⟩
        have h : F18_b2 width2 r1 n19 t22 w23 (fun x0 x1 w => ∃ m, m < n23 ∧ J23 m (x0, x1) w) k := hr23 n23 (n19, t22) w23 h
        unfold F18_b2 at h
        refine WC_seq ?_
        refine WC_region ?_
        refine WL_val gd0 ((o_lss (by exact e25_21) (by exact e24_20)) _) rfl ?_
        refine WL_nil ?_
        refine nrm ?_
        refine WC_seq ?_
        refine WC_cond (t := (decide (t22 < width2))) rfl (fun hb25 => ?_) (fun hb25 => ?_)
        · rw [if_pos (of_decide_eq_true hb25)] at h
          refine WC_skip ?_
          refine nrm ?_
          refine WC_seq ?_
          refine WC_block ?_
          refine WC_seq ?_
          refine WC_draws [(0, true), (1, true), (2, true), (3, true), (4, true), (5, true), (6, true), (7, true), (8, true), (9, true), (10, true), (11, true), (12, true), (13, true), (14, true), (15, true), (16, true), (17, true), (18, true), (19, true), (20, true), (21, true), (22, true), (23, true)] Try.mixed (by kernel_rfl) ?_
          refine WQ_val rfl gd0 (o_move (v := .int .u64 n19) (by exact e5_18)) rfl ?_
          refine WQ_val rfl gd0 (o_shl rfl rfl (by decide)) rfl ?_
          refine WQ_val rfl gd0 (o_move (v := .pointer r1) (by exact e0_17)) rfl ?_
          obtain ⟨p26, q27, h⟩ := h
          refine WQ_val rfl gd0 (o_nilCheck (by exact (congrArg Value.pointer q27))) rfl ?_
          refine WQ_val rfl gd0 (o_fieldAddr 1 Try.underlying55 rfl Try.sizeOf27 rfl rfl rfl) rfl ?_
          obtain ⟨x_a28, x_n29, x_c30, hc31, h⟩ := h
          refine WQ_look (fun w => w.cell? (p26.add 1) = some (.slice x_a28 x_n29 x_c30)) rfl gd0 (fun w hc => (o_load Try.isAgg27 rfl hc)) hc31 rfl ?_
          refine WQ_val rfl gd0 (o_move (v := .pointer r1) (by exact e0_17)) rfl ?_
          refine WQ_val rfl gd0 (o_nilCheck (by exact (congrArg Value.pointer q27))) rfl ?_
          refine WQ_val rfl gd0 (o_fieldAddr 2 Try.underlying55 rfl Try.sizeOf3 rfl rfl rfl) rfl ?_
          obtain ⟨x32, hc33, h⟩ := h
          refine WQ_look (fun w => w.cell? (p26.add 2) = some (.int .i64 x32)) rfl gd0 (fun w hc => (o_load Try.isAgg3 rfl hc)) hc33 rfl ?_
          refine WQ_val rfl gd0 (fun w => o_quo rfl rfl w (by decide)) rfl ?_
          obtain ⟨p36, q37, h⟩ := h
          obtain ⟨l34, u35, h⟩ := h
          refine WQ_val rfl gd0 (o_indexAddr1 Try.underlying27 Try.sizeOf5 (by exact (congrArg (fun z => Value.slice z x_n29 x_c30) q37)) rfl l34 u35) rfl ?_
          obtain ⟨x38, hc39, h⟩ := h
          refine WQ_look (fun w => w.cell? (p36.add ((IntKind.i64.wrap (Int.tdiv x32 8)).toNat)) = some (.int .u8 x38)) rfl gd0 (fun w hc => (o_load Try.isAgg5 rfl hc)) hc39 rfl ?_
          refine WQ_val rfl gd0 (o_move (v := .pointer r1) (by exact e0_17)) rfl ?_
          refine WQ_val rfl gd0 (o_nilCheck (by exact (congrArg Value.pointer q27))) rfl ?_
          refine WQ_val rfl gd0 (o_fieldAddr 2 Try.underlying55 rfl Try.sizeOf3 rfl rfl rfl) rfl ?_
          obtain ⟨x40, hc41, h⟩ := h
          refine WQ_look (fun w => w.cell? (p26.add 2) = some (.int .i64 x40)) rfl gd0 (fun w hc => (o_load Try.isAgg3 rfl hc)) hc41 rfl ?_
          refine WQ_val rfl gd0 (fun w => o_rem rfl rfl w (by decide)) rfl ?_
          refine WQ_val rfl gd0 (o_sub rfl rfl) rfl ?_
          obtain ⟨c42, h⟩ := h
          refine WQ_val rfl gd0 (o_shr rfl rfl c42) rfl ?_
          refine WQ_val rfl gd0 (o_and rfl rfl) rfl ?_
          refine WQ_val rfl gd0 (o_conv Try.underlying5 Try.underlying31 rfl) rfl ?_
          refine WQ_val rfl gd0 (o_or rfl rfl) rfl ?_
          refine WQ_val rfl gd0 (o_assign (v := .int .u64 (bor .u64 (shl .u64 n19 1) (IntKind.u64.wrap (band .u8 (shr .u8 x38 (IntKind.i64.wrap (7 - (Int.tmod x40 8)))) 1)))) rfl) rfl ?_
          refine WQ_nil ?_
          refine nrm ?_
          refine WC_region ?_
          refine WL_val gd0 ((o_move (v := .pointer r1) (by exact e0_17)) _) rfl ?_
          refine WL_val gd0 ((o_nilCheck (by exact (congrArg Value.pointer q27))) _) rfl ?_
          refine WL_val gd0 ((o_fieldAddr 2 Try.underlying55 rfl Try.sizeOf3 rfl rfl rfl) _) rfl ?_
          obtain ⟨x43, hc44, h⟩ := h
          refine WL_val gd0 (o_load Try.isAgg3 rfl hc44) rfl ?_
          refine WL_val gd0 ((o_add rfl rfl) _) rfl ?_
          refine WL_val gd0 ((o_nilCheck (by exact (congrArg Value.pointer q27))) _) rfl ?_
          refine WL_val gd0 ((o_fieldAddr 2 Try.underlying55 rfl Try.sizeOf3 rfl rfl rfl) _) rfl ?_
          obtain ⟨c46, h⟩ := h
          refine WL_act gd0 (o_store (v := .int .i64 (IntKind.i64.wrap (x43 + 1))) Try.sizeOf3 rfl rfl rfl c46) ?_
          generalize hw45 : World.setCell w23.drew (p26.add 2) (.int .i64 (IntKind.i64.wrap (x43 + 1))) = w45 at h ⊢
          try dsimp only at h
          refine WL_nil ?_
          refine nrmB ?_
          refine nrm ?_
          refine WC_region ?_
          refine WL_val gd0 ((o_add (by exact e25_21) rfl) _) rfl ?_
          refine WL_val gd0 ((o_move (v := .int .i64 (IntKind.i64.wrap (t22 + 1))) rfl) _) rfl ?_
          refine WL_nil ?_
          refine nrm ?_
          obtain ⟨m24, hm24, h⟩ := h
          exact ⟨m24, hm24, _, _, rfl, rfl, e0_17, e24_20, h⟩
        · rw [if_neg (of_decide_eq_false hb25)] at h
          refine WC_exit ?_
          refine exT ?_
          refine exT ?_
          refine exB ?_
          refine nrm ?_
          refine WC_seq ?_
          refine WC_region ?_
          refine WL_val gd0 ((o_move (v := .int .u64 n19) (by exact e5_18)) _) rfl ?_
          refine WL_val gd0 ((o_assign (v := .int .u64 n19) rfl) _) rfl ?_
          refine WL_nil ?_
          refine nrm ?_
          refine WC_ret ?_
          refine rtE ?_
          exact gv1 rfl rfl h

/-- spacecraft spacecraftref02.Low -/
def F19 (n1 : Int) (width2 : Int) (w3 : World) (k : Value → World → Prop) : Prop :=
  if 64 ≤ width2 then
  k (.int .u64 n1) w3
else
  (0 : Int) ≤ IntKind.u64.wrap width2 ∧ shl .u64 1 (IntKind.u64.wrap width2) ≠ 0 ∧ k (.int .u64 (Int.tmod n1 (shl .u64 1 (IntKind.u64.wrap width2)))) w3
set_option maxRecDepth 100000 in
set_option maxHeartbeats 2000000 in
theorem w19 (n1 : Int) (width2 : Int) (w3 : World) (k : Value → World → Prop) (h : F19 n1 width2 w3 k) : Does Try.prog 19 #[.int .u64 n1, .int .i64 width2] w3 k := by
  refine enter 13 Try.func19 rfl rfl rfl ?_
  intro ρ hρ
  have e0 := hρ 0 _ rfl
  have e1 := hρ 1 _ rfl
  unfold F19 at h
  refine WC_seq ?_
  refine WC_region ?_
  refine WL_val gd0 ((o_assign (v := .int .u64 0) rfl) _) rfl ?_
  refine WL_nil ?_
  refine nrm ?_
  refine WC_seq ?_
  refine WC_seq ?_
  refine WC_region ?_
  refine WL_val gd0 ((o_move (v := .int .i64 width2) (by exact e1)) _) rfl ?_
  refine WL_val gd0 ((o_geq rfl rfl) _) rfl ?_
  refine WL_nil ?_
  refine nrm ?_
  refine WC_cond (t := (decide (64 ≤ width2))) rfl (fun hb4 => ?_) (fun hb4 => ?_)
  · rw [if_pos (of_decide_eq_true hb4)] at h
    refine WC_seq ?_
    refine WC_region ?_
    refine WL_val gd0 ((o_move (v := .int .u64 n1) (by exact e0)) _) rfl ?_
    refine WL_val gd0 ((o_assign (v := .int .u64 n1) rfl) _) rfl ?_
    refine WL_nil ?_
    refine nrm ?_
    refine WC_ret ?_
    refine rtT ?_
    refine rtE ?_
    exact gv1 rfl rfl h
  · rw [if_neg (of_decide_eq_false hb4)] at h
    refine WC_skip ?_
    refine nrm ?_
    refine WC_seq ?_
    refine WC_region ?_
    refine WL_val gd0 ((o_move (v := .int .u64 n1) (by exact e0)) _) rfl ?_
    refine WL_val gd0 ((o_move (v := .int .i64 width2) (by exact e1)) _) rfl ?_
    refine WL_val gd0 ((o_conv Try.underlying3 Try.underlying43 rfl) _) rfl ?_
    obtain ⟨c5, h⟩ := h
    refine WL_val gd0 ((o_shl rfl rfl c5) _) rfl ?_
    obtain ⟨c6, h⟩ := h
    refine WL_val gd0 ((fun w => o_rem rfl rfl w c6) _) rfl ?_
    refine WL_val gd0 ((o_assign (v := .int .u64 (Int.tmod n1 (shl .u64 1 (IntKind.u64.wrap width2)))) rfl) _) rfl ?_
    refine WL_nil ?_
    refine nrm ?_
    refine WC_ret ?_
    refine rtE ?_
    exact gv1 rfl rfl h

/-- (*spacecraft bits.Reader).Left -/
def F20 (r1 : Option Addr) (w2 : World) (k : Value → World → Prop) : Prop :=
  Does Try.prog 27 #[.pointer r1] w2 (fun v w3 => ∃ (x4 : Bool), v = .bool x4 ∧ if (!x4) = true then
  k (.int .i64 0) w3
else
  ∃ (p6 : Addr), r1 = some p6 ∧ ∃ (x_a8 : Option Addr) (x_n9 x_c10 : Nat), w3.drew.cell? (p6.add 1) = some (.slice x_a8 x_n9 x_c10) ∧ ∃ (x12 : Int), w3.drew.cell? (p6.add 2) = some (.int .i64 x12) ∧ k (.int .i64 (IntKind.i64.wrap ((IntKind.i64.wrap (8 * (x_n9 : Int))) - x12))) w3.drew)
set_option maxRecDepth 100000 in
set_option maxHeartbeats 2000000 in
theorem w20 (r1 : Option Addr) (w2 : World) (k : Value → World → Prop) (h : F20 r1 w2 k) : Does Try.prog 20 #[.pointer r1] w2 k := by
  refine enter 17 Try.func20 rfl rfl rfl ?_
  intro ρ hρ
  have e0 := hρ 0 _ rfl
  unfold F20 at h
  refine WC_seq ?_
  refine WC_region ?_
  refine WL_val gd0 ((o_assign (v := .int .i64 0) rfl) _) rfl ?_
  refine WL_nil ?_
  refine nrm ?_
  refine WC_seq ?_
  refine WC_seq ?_
  refine WC_region ?_
  refine WL_val gd0 ((o_move (v := .pointer r1) (by exact e0)) _) rfl ?_
  refine WL_call gd0 (o_call Try.call27 (argCons rfl argNil) _) rfl (h.mono ?_)
  rintro _ w3 ⟨x4, rfl, h⟩
  refine WL_val gd0 ((o_not rfl) _) rfl ?_
  refine WL_nil ?_
  refine nrm ?_
  refine WC_cond (t := (!x4)) rfl (fun hb5 => ?_) (fun hb5 => ?_)
  · rw [if_pos hb5] at h
    refine WC_seq ?_
    refine WC_region ?_
    refine WL_val gd0 ((o_assign (v := .int .i64 0) rfl) _) rfl ?_
    refine WL_nil ?_
    refine nrm ?_
    refine WC_ret ?_
    refine rtT ?_
    refine rtE ?_
    exact gv1 rfl rfl h
  · rw [if_neg (neT hb5)] at h
    refine WC_skip ?_
    refine nrm ?_
    refine WC_seq ?_
    refine WC_draws [(0, true), (1, true), (2, true), (3, true), (4, true), (5, true), (6, true), (7, true), (8, true), (9, true), (10, true), (11, true)] Try.mixed (by kernel_rfl) ?_
    refine WQ_val rfl gd0 (o_move (v := .pointer r1) (by exact e0)) rfl ?_
    obtain ⟨p6, q7, h⟩ := h
    refine WQ_val rfl gd0 (o_nilCheck (by exact (congrArg Value.pointer q7))) rfl ?_
    refine WQ_val rfl gd0 (o_fieldAddr 1 Try.underlying55 rfl Try.sizeOf27 rfl rfl rfl) rfl ?_
    obtain ⟨x_a8, x_n9, x_c10, hc11, h⟩ := h
    refine WQ_look (fun w => w.cell? (p6.add 1) = some (.slice x_a8 x_n9 x_c10)) rfl gd0 (fun w hc => (o_load Try.isAgg27 rfl hc)) hc11 rfl ?_
    refine WQ_val rfl gd0 (o_len Try.underlying27 rfl) rfl ?_
    refine WQ_val rfl gd0 (o_mul rfl rfl) rfl ?_
    refine WQ_val rfl gd0 (o_move (v := .pointer r1) (by exact e0)) rfl ?_
    refine WQ_val rfl gd0 (o_nilCheck (by exact (congrArg Value.pointer q7))) rfl ?_
    refine WQ_val rfl gd0 (o_fieldAddr 2 Try.underlying55 rfl Try.sizeOf3 rfl rfl rfl) rfl ?_
    obtain ⟨x12, hc13, h⟩ := h
    refine WQ_look (fun w => w.cell? (p6.add 2) = some (.int .i64 x12)) rfl gd0 (fun w hc => (o_load Try.isAgg3 rfl hc)) hc13 rfl ?_
    refine WQ_val rfl gd0 (o_sub rfl rfl) rfl ?_
    refine WQ_val rfl gd0 (o_assign (v := .int .i64 (IntKind.i64.wrap ((IntKind.i64.wrap (8 * (x_n9 : Int))) - x12))) rfl) rfl ?_
    refine WQ_nil ?_
    refine nrm ?_
    refine WC_ret ?_
    refine rtE ?_
    exact gv1 rfl rfl h

/-- (*spacecraft bits.Reader).Failed -/
def F21 (r1 : Option Addr) (w2 : World) (k : Value → World → Prop) : Prop :=
  if (!(r1).isNone) = true then
  ∃ (p4 : Addr), r1 = some p4 ∧ ∃ (x6 : Bool), w2.cell? (p4.add 3) = some (.bool x6) ∧ k (.bool x6) w2
else
  k (.bool false) w2
set_option maxRecDepth 100000 in
set_option maxHeartbeats 2000000 in
theorem w21 (r1 : Option Addr) (w2 : World) (k : Value → World → Prop) (h : F21 r1 w2 k) : Does Try.prog 21 #[.pointer r1] w2 k := by
  refine enter 11 Try.func21 rfl rfl rfl ?_
  intro ρ hρ
  have e0 := hρ 0 _ rfl
  unfold F21 at h
  refine WC_seq ?_
  refine WC_region ?_
  refine WL_val gd0 ((o_assign (v := .bool false) rfl) _) rfl ?_
  refine WL_nil ?_
  refine nrm ?_
  refine WC_seq ?_
  refine WC_region ?_
  refine WL_val gd0 ((o_move (v := .pointer r1) (by exact e0)) _) rfl ?_
  refine WL_val gd0 ((o_neqPtrNil Try.underlying38 rfl rfl) _) rfl ?_
  refine WL_val gd0 ((o_move (v := .bool (!(r1).isNone)) rfl) _) rfl ?_
  refine bsplit (!(r1).isNone) (fun hb3 => ?_) (fun hb3 => ?_)
  · rw [if_pos hb3] at h
    refine WL_val (gdY (b := (!(r1).isNone)) 5 rfl rfl hb3) ((o_move (v := .pointer r1) (by exact e0)) _) rfl ?_
    obtain ⟨p4, q5, h⟩ := h
    refine WL_val (gdY (b := (!(r1).isNone)) 5 rfl rfl hb3) ((o_nilCheck (by exact (congrArg Value.pointer q5))) _) rfl ?_
    refine WL_val (gdY (b := (!(r1).isNone)) 5 rfl rfl hb3) ((o_fieldAddr 3 Try.underlying55 rfl Try.sizeOf4 rfl rfl rfl) _) rfl ?_
    obtain ⟨x6, hc7, h⟩ := h
    refine WL_val (gdY (b := (!(r1).isNone)) 5 rfl rfl hb3) (o_load Try.isAgg4 rfl hc7) rfl ?_
    refine WL_val gd0 ((o_pickT (v := .bool x6) rfl hb3 rfl) _) rfl ?_
    refine WL_val gd0 ((o_assign (v := .bool x6) rfl) _) rfl ?_
    refine WL_nil ?_
    refine nrm ?_
    refine WC_ret ?_
    refine rtE ?_
    exact gv1 rfl rfl h
  · rw [if_neg (neT hb3)] at h
    refine WL_skip (gdN (b := (!(r1).isNone)) 5 rfl rfl hb3) rfl ?_
    refine WL_skip (gdN (b := (!(r1).isNone)) 5 rfl rfl hb3) rfl ?_
    refine WL_skip (gdN (b := (!(r1).isNone)) 5 rfl rfl hb3) rfl ?_
    refine WL_skip (gdN (b := (!(r1).isNone)) 5 rfl rfl hb3) rfl ?_
    refine WL_val gd0 ((o_pickF (v := .bool false) rfl hb3 rfl) _) rfl ?_
    refine WL_val gd0 ((o_assign (v := .bool false) rfl) _) rfl ?_
    refine WL_nil ?_
    refine nrm ?_
    refine WC_ret ?_
    refine rtE ?_
    exact gv1 rfl rfl h

def F22_j1 (r1 : Option Addr) (width2 : Int) (t10 : Bool) (w11 : World) (k : Value → World → Prop) : Prop :=
  if t10 = true then
  ∃ (p13 : Addr), r1 = some p13 ∧ Put w11 (p13.add 3) (.bool true) (fun w15 => k (.tuple #[]) w15)
else
  ∃ (p17 : Addr), r1 = some p17 ∧ ∃ (x19 : Int), w11.cell? (p17.add 2) = some (.int .i64 x19) ∧ Put w11 (p17.add 2) (.int .i64 (IntKind.i64.wrap (x19 + width2))) (fun w21 => k (.tuple #[]) w21)
/-- (*spacecraft bits.Reader).Skip -/
def F22 (r1 : Option Addr) (width2 : Int) (w3 : World) (k : Value → World → Prop) : Prop :=
  Does Try.prog 27 #[.pointer r1] w3 (fun v w4 => ∃ (x5 : Bool), v = .bool x5 ∧ if (!x5) = true then
  k (.tuple #[]) w4
else
  if width2 < 0 then
    F22_j1 r1 width2 true w4 k
  else
    Does Try.prog 20 #[.pointer r1] w4 (fun v w24 => ∃ (x25 : Int), v = .int .i64 x25 ∧ F22_j1 r1 width2 (decide (x25 < width2)) w24 k))
set_option maxRecDepth 100000 in
set_option maxHeartbeats 2000000 in
theorem w22 (r1 : Option Addr) (width2 : Int) (w3 : World) (k : Value → World → Prop) (h : F22 r1 width2 w3 k) : Does Try.prog 22 #[.pointer r1, .int .i64 width2] w3 k := by
  refine enter 26 Try.func22 rfl rfl rfl ?_
  intro ρ hρ
  have e0 := hρ 0 _ rfl
  have e1 := hρ 1 _ rfl
  unfold F22 at h
  refine WC_seq ?_
  refine WC_seq ?_
  refine WC_region ?_
  refine WL_val gd0 ((o_move (v := .pointer r1) (by exact e0)) _) rfl ?_
  refine WL_call gd0 (o_call Try.call27 (argCons rfl argNil) _) rfl (h.mono ?_)
  rintro _ w4 ⟨x5, rfl, h⟩
  refine WL_val gd0 ((o_not rfl) _) rfl ?_
  refine WL_nil ?_
  refine nrm ?_
  refine WC_cond (t := (!x5)) rfl (fun hb6 => ?_) (fun hb6 => ?_)
  · rw [if_pos hb6] at h
    refine WC_ret ?_
    refine rtT ?_
    refine rtE ?_
    exact gv0 rfl h
  · rw [if_neg (neT hb6)] at h
    refine WC_skip ?_
    refine nrm ?_
    refine WC_seq ?_
    refine WC_cut (fun ρ w' => ∃ (t10 : Bool), ρ 14 = .bool t10 ∧ ρ 0 = .pointer r1 ∧ ρ 1 = .int .i64 width2 ∧ F22_j1 r1 width2 t10 w' k) ?_ ?_
    · refine WC_region ?_
      refine WL_val gd0 ((o_move (v := .int .i64 width2) (by exact e1)) _) rfl ?_
      refine WL_val gd0 ((o_lss rfl rfl) _) rfl ?_
      refine WL_val gd0 ((o_move (v := .bool (decide (width2 < 0))) rfl) _) rfl ?_
      refine bsplit (decide (width2 < 0)) (fun hb23 => ?_) (fun hb23 => ?_)
      · rw [if_pos (of_decide_eq_true hb23)] at h
        refine WL_skip (gdN (b := (decide (width2 < 0))) 9 rfl rfl hb23) rfl ?_
        refine WL_skip (gdN (b := (decide (width2 < 0))) 9 rfl rfl hb23) rfl ?_
        refine WL_skip (gdN (b := (decide (width2 < 0))) 9 rfl rfl hb23) rfl ?_
        refine WL_skip (gdN (b := (decide (width2 < 0))) 9 rfl rfl hb23) rfl ?_
        refine WL_val gd0 ((o_pickT (v := .bool true) rfl hb23 rfl) _) rfl ?_
        refine WL_nil ?_
        refine nrm ?_
        exact ⟨_, rfl, e0, e1, h⟩
      · rw [if_neg (of_decide_eq_false hb23)] at h
        refine WL_val (gdY (b := (decide (width2 < 0))) 9 rfl rfl hb23) ((o_move (v := .int .i64 width2) (by exact e1)) _) rfl ?_
        refine WL_val (gdY (b := (decide (width2 < 0))) 9 rfl rfl hb23) ((o_move (v := .pointer r1) (by exact e0)) _) rfl ?_
        refine WL_call (gdY (b := (decide (width2 < 0))) 9 rfl rfl hb23) (o_call Try.call20 (argCons rfl argNil) _) rfl (h.mono ?_)
        rintro _ w24 ⟨x25, rfl, h⟩
        refine WL_val (gdY (b := (decide (width2 < 0))) 9 rfl rfl hb23) ((o_gtr rfl rfl) _) rfl ?_
        refine WL_val gd0 ((o_pickF (v := .bool (decide (x25 < width2))) rfl hb23 rfl) _) rfl ?_
        refine WL_nil ?_
        refine nrm ?_
        exact ⟨_, rfl, e0, e1, h⟩
    · rintro ρ w11 ⟨t10, e14_9, e0_7, e1_8, h⟩
      unfold F22_j1 at h
      refine WC_cond (t := t10) (by exact e14_9) (fun hb12 => ?_) (fun hb12 => ?_)
      · rw [if_pos hb12] at h
        refine WC_seq ?_
        refine WC_region ?_
        refine WL_val gd0 ((o_move (v := .pointer r1) (by exact e0_7)) _) rfl ?_
        obtain ⟨p13, q14, h⟩ := h
        refine WL_val gd0 ((o_nilCheck (by exact (congrArg Value.pointer q14))) _) rfl ?_
        refine WL_val gd0 ((o_fieldAddr 3 Try.underlying55 rfl Try.sizeOf4 rfl rfl rfl) _) rfl ?_
        obtain ⟨c16, h⟩ := h
        refine WL_act gd0 (o_store (v := .bool true) Try.sizeOf4 rfl rfl rfl c16) ?_
        generalize hw15 : World.setCell w11 (p13.add 3) (.bool true) = w15 at h ⊢
        try dsimp only at h
        refine WL_nil ?_
        refine nrm ?_
        refine WC_ret ?_
        refine rtT ?_
        refine rtE ?_
        exact gv0 rfl h
      · rw [if_neg (neT hb12)] at h
        refine WC_skip ?_
        refine nrm ?_
        refine WC_region ?_
        refine WL_val gd0 ((o_move (v := .pointer r1) (by exact e0_7)) _) rfl ?_
        obtain ⟨p17, q18, h⟩ := h
        refine WL_val gd0 ((o_nilCheck (by exact (congrArg Value.pointer q18))) _) rfl ?_
        refine WL_val gd0 ((o_fieldAddr 2 Try.underlying55 rfl Try.sizeOf3 rfl rfl rfl) _) rfl ?_
        obtain ⟨x19, hc20, h⟩ := h
        refine WL_val gd0 (o_load Try.isAgg3 rfl hc20) rfl ?_
        refine WL_val gd0 ((o_move (v := .int .i64 width2) (by exact e1_8)) _) rfl ?_
        refine WL_val gd0 ((o_add rfl rfl) _) rfl ?_
        refine WL_val gd0 ((o_nilCheck (by exact (congrArg Value.pointer q18))) _) rfl ?_
        refine WL_val gd0 ((o_fieldAddr 2 Try.underlying55 rfl Try.sizeOf3 rfl rfl rfl) _) rfl ?_
        obtain ⟨c22, h⟩ := h
        refine WL_act gd0 (o_store (v := .int .i64 (IntKind.i64.wrap (x19 + width2))) Try.sizeOf3 rfl rfl rfl c22) ?_
        generalize hw21 : World.setCell w11 (p17.add 2) (.int .i64 (IntKind.i64.wrap (x19 + width2))) = w21 at h ⊢
        try dsimp only at h
        refine WL_nil ?_
        refine ndE ?_
        exact gv0 rfl h

def F23_j1 (r1 : Option Addr) (width2 : Int) (w6 : World) (k : Value → World → Prop) : Prop :=
  ∃ (p7 : Addr), r1 = some p7 ∧ ∃ (x9 : Bool), w6.cell? (p7.add 2) = some (.bool x9) ∧ if (!x9) = true then
  ∃ (x12 : Int), w6.cell? (p7.add 1) = some (.int .i64 x12) ∧ Put w6 (p7.add 1) (.int .i64 (IntKind.i64.wrap (x12 + width2))) (fun w14 => k (.tuple #[]) w14)
else
  k (.tuple #[]) w6
def F23_j2 (r1 : Option Addr) (width2 : Int) (t19 : Bool) (w20 : World) (k : Value → World → Prop) : Prop :=
  if t19 = true then
  ∃ (p22 : Addr), r1 = some p22 ∧ Put w20 (p22.add 2) (.bool true) (fun w24 => F23_j1 r1 width2 w24 k)
else
  F23_j1 r1 width2 w20 k
/-- (*spacecraft spacecraftref02.Reader).Skip -/
def F23 (r1 : Option Addr) (width2 : Int) (w3 : World) (k : Value → World → Prop) : Prop :=
  if width2 < 0 then
  F23_j2 r1 width2 true w3 k
else
  Does Try.prog 25 #[.pointer r1] w3 (fun v w27 => ∃ (x28 : Int), v = .int .i64 x28 ∧ F23_j2 r1 width2 (decide (x28 < width2)) w27 k)
set_option maxRecDepth 100000 in
set_option maxHeartbeats 2000000 in
theorem w23 (r1 : Option Addr) (width2 : Int) (w3 : World) (k : Value → World → Prop) (h : F23 r1 width2 w3 k) : Does Try.prog 23 #[.pointer r1, .int .i64 width2] w3 k := by
  refine enter 29 Try.func23 rfl rfl rfl ?_
  intro ρ hρ
  have e0 := hρ 0 _ rfl
  have e1 := hρ 1 _ rfl
  unfold F23 at h
  refine WC_cut (fun ρ w' => ρ 0 = .pointer r1 ∧ ρ 1 = .int .i64 width2 ∧ F23_j1 r1 width2 w' k) ?_ ?_
  · refine WC_cut (fun ρ w' => ∃ (t19 : Bool), ρ 11 = .bool t19 ∧ ρ 0 = .pointer r1 ∧ ρ 1 = .int .i64 width2 ∧ F23_j2 r1 width2 t19 w' k) ?_ ?_
    · refine WC_region ?_
      refine WL_val gd0 ((o_move (v := .int .i64 width2) (by exact e1)) _) rfl ?_
      refine WL_val gd0 ((o_lss rfl rfl) _) rfl ?_
      refine WL_val gd0 ((o_move (v := .bool (decide (width2 < 0))) rfl) _) rfl ?_
      refine bsplit (decide (width2 < 0)) (fun hb26 => ?_) (fun hb26 => ?_)
      · rw [if_pos (of_decide_eq_true hb26)] at h
        refine WL_skip (gdN (b := (decide (width2 < 0))) 6 rfl rfl hb26) rfl ?_
        refine WL_skip (gdN (b := (decide (width2 < 0))) 6 rfl rfl hb26) rfl ?_
        refine WL_skip (gdN (b := (decide (width2 < 0))) 6 rfl rfl hb26) rfl ?_
        refine WL_skip (gdN (b := (decide (width2 < 0))) 6 rfl rfl hb26) rfl ?_
        refine WL_val gd0 ((o_pickT (v := .bool true) rfl hb26 rfl) _) rfl ?_
        refine WL_nil ?_
        refine nrm ?_
        exact ⟨_, rfl, e0, e1, h⟩
      · rw [if_neg (of_decide_eq_false hb26)] at h
        refine WL_val (gdY (b := (decide (width2 < 0))) 6 rfl rfl hb26) ((o_move (v := .int .i64 width2) (by exact e1)) _) rfl ?_
        refine WL_val (gdY (b := (decide (width2 < 0))) 6 rfl rfl hb26) ((o_move (v := .pointer r1) (by exact e0)) _) rfl ?_
        refine WL_call (gdY (b := (decide (width2 < 0))) 6 rfl rfl hb26) (o_call Try.call25 (argCons rfl argNil) _) rfl (h.mono ?_)
        rintro _ w27 ⟨x28, rfl, h⟩
        refine WL_val (gdY (b := (decide (width2 < 0))) 6 rfl rfl hb26) ((o_gtr rfl rfl) _) rfl ?_
        refine WL_val gd0 ((o_pickF (v := .bool (decide (x28 < width2))) rfl hb26 rfl) _) rfl ?_
        refine WL_nil ?_
        refine nrm ?_
        exact ⟨_, rfl, e0, e1, h⟩
    · rintro ρ w20 ⟨t19, e11_18, e0_16, e1_17, h⟩
      unfold F23_j2 at h
      refine WC_cond (t := t19) (by exact e11_18) (fun hb21 => ?_) (fun hb21 => ?_)
      · rw [if_pos hb21] at h
        refine WC_region ?_
        refine WL_val gd0 ((o_move (v := .pointer r1) (by exact e0_16)) _) rfl ?_
        obtain ⟨p22, q23, h⟩ := h
        refine WL_val gd0 ((o_nilCheck (by exact (congrArg Value.pointer q23))) _) rfl ?_
        refine WL_val gd0 ((o_fieldAddr 2 Try.underlying47 rfl Try.sizeOf4 rfl rfl rfl) _) rfl ?_
        obtain ⟨c25, h⟩ := h
        refine WL_act gd0 (o_store (v := .bool true) Try.sizeOf4 rfl rfl rfl c25) ?_
        generalize hw24 : World.setCell w20 (p22.add 2) (.bool true) = w24 at h ⊢
        try dsimp only at h
        refine WL_nil ?_
        refine nrm ?_
        exact ⟨e0_16, e1_17, h⟩
      · rw [if_neg (neT hb21)] at h
        refine WC_skip ?_
        refine nrm ?_
        exact ⟨e0_16, e1_17, h⟩
  · rintro ρ w6 ⟨e0_4, e1_5, h⟩
    unfold F23_j1 at h
    refine WC_seq ?_
    refine WC_region ?_
    refine WL_val gd0 ((o_move (v := .pointer r1) (by exact e0_4)) _) rfl ?_
    obtain ⟨p7, q8, h⟩ := h
    refine WL_val gd0 ((o_nilCheck (by exact (congrArg Value.pointer q8))) _) rfl ?_
    refine WL_val gd0 ((o_fieldAddr 2 Try.underlying47 rfl Try.sizeOf4 rfl rfl rfl) _) rfl ?_
    obtain ⟨x9, hc10, h⟩ := h
    refine WL_val gd0 (o_load Try.isAgg4 rfl hc10) rfl ?_
    refine WL_val gd0 ((o_not rfl) _) rfl ?_
    refine WL_nil ?_
    refine nrm ?_
    refine WC_cond (t := (!x9)) rfl (fun hb11 => ?_) (fun hb11 => ?_)
    · rw [if_pos hb11] at h
      refine WC_region ?_
      refine WL_val gd0 ((o_move (v := .pointer r1) (by exact e0_4)) _) rfl ?_
      refine WL_val gd0 ((o_move (v := .pointer r1) (by exact e0_4)) _) rfl ?_
      refine WL_val gd0 ((o_nilCheck (by exact (congrArg Value.pointer q8))) _) rfl ?_
      refine WL_val gd0 ((o_fieldAddr 1 Try.underlying47 rfl Try.sizeOf3 rfl rfl rfl) _) rfl ?_
      obtain ⟨x12, hc13, h⟩ := h
      refine WL_val gd0 (o_load Try.isAgg3 rfl hc13) rfl ?_
      refine WL_val gd0 ((o_move (v := .int .i64 width2) (by exact e1_5)) _) rfl ?_
      refine WL_val gd0 ((o_add rfl rfl) _) rfl ?_
      refine WL_val gd0 ((o_nilCheck (by exact (congrArg Value.pointer q8))) _) rfl ?_
      refine WL_val gd0 ((o_fieldAddr 1 Try.underlying47 rfl Try.sizeOf3 rfl rfl rfl) _) rfl ?_
      obtain ⟨c15, h⟩ := h
      refine WL_act gd0 (o_store (v := .int .i64 (IntKind.i64.wrap (x12 + width2))) Try.sizeOf3 rfl rfl rfl c15) ?_
      generalize hw14 : World.setCell w6 (p7.add 1) (.int .i64 (IntKind.i64.wrap (x12 + width2))) = w14 at h ⊢
      try dsimp only at h
      refine WL_nil ?_
      refine ndE ?_
      exact gv0 rfl h
    · rw [if_neg (neT hb11)] at h
      refine WC_skip ?_
      refine ndE ?_
      exact gv0 rfl h

def F24_b2 (width2 : Int) (p7 : Addr) (n15 : Int) (i17 : Int) (w18 : World) (nx18 : Int → Int → World → Prop) (k : Value → World → Prop) : Prop :=
  if i17 < width2 then
  ∃ (x_a21 : Option Addr) (x_n22 x_c23 : Nat), w18.drew.cell? p7 = some (.slice x_a21 x_n22 x_c23) ∧ ∃ (x25 : Int), w18.drew.cell? (p7.add 1) = some (.int .i64 x25) ∧ ∃ (p29 : Addr), x_a21 = some p29 ∧ (0 : Int) ≤ IntKind.i64.wrap (Int.tdiv x25 8) ∧ IntKind.i64.wrap (Int.tdiv x25 8) < (x_n22 : Int) ∧ ∃ (x31 : Int), w18.drew.cell? (p29.add ((IntKind.i64.wrap (Int.tdiv x25 8)).toNat)) = some (.int .u8 x31) ∧ ∃ (x33 : Int), w18.drew.cell? (p7.add 1) = some (.int .i64 x33) ∧ (0 : Int) ≤ IntKind.u64.wrap (IntKind.i64.wrap (7 - (Int.tmod x33 8))) ∧ ∃ (x36 : Int), w18.drew.cell? (p7.add 1) = some (.int .i64 x36) ∧ Put w18.drew (p7.add 1) (.int .i64 (IntKind.i64.wrap (x36 + 1))) (fun w38 => nx18 (IntKind.u64.wrap ((IntKind.u64.wrap (2 * n15)) + (IntKind.u64.wrap (Int.tmod (shr .u8 x31 (IntKind.u64.wrap (IntKind.i64.wrap (7 - (Int.tmod x33 8))))) 2)))) (IntKind.i64.wrap (i17 + 1)) w38)
else
  k (.int .u64 n15) w18
def F24_j1 (r1 : Option Addr) (width2 : Int) (w6 : World) (k : Value → World → Prop) : Prop :=
  ∃ (p7 : Addr), r1 = some p7 ∧ ∃ (x9 : Bool), w6.cell? (p7.add 2) = some (.bool x9) ∧ if x9 = true then
  k (.int .u64 0) w6
else
  LoopP (fun (s : Int × Int) w' nx' => F24_b2 width2 p7 (s.1) (s.2) w' (fun x0 x1 w => nx' (x0, x1) w) k) (0, 0) w6
def F24_j3 (r1 : Option Addr) (width2 : Int) (t43 : Bool) (w44 : World) (k : Value → World → Prop) : Prop :=
  if t43 = true then
  ∃ (p46 : Addr), r1 = some p46 ∧ Put w44 (p46.add 2) (.bool true) (fun w48 => F24_j1 r1 width2 w48 k)
else
  F24_j1 r1 width2 w44 k
/-- (*spacecraft spacecraftref02.Reader).Get -/
def F24 (r1 : Option Addr) (width2 : Int) (w3 : World) (k : Value → World → Prop) : Prop :=
  if width2 < 0 then
  F24_j3 r1 width2 true w3 k
else
  if 64 < width2 then
    F24_j3 r1 width2 true w3 k
  else
    Does Try.prog 25 #[.pointer r1] w3 (fun v w52 => ∃ (x53 : Int), v = .int .i64 x53 ∧ F24_j3 r1 width2 (decide (x53 < width2)) w52 k)
set_option maxRecDepth 100000 in
set_option maxHeartbeats 2000000 in
theorem w24 (r1 : Option Addr) (width2 : Int) (w3 : World) (k : Value → World → Prop) (h : F24 r1 width2 w3 k) : Does Try.prog 24 #[.pointer r1, .int .i64 width2] w3 k := by
  refine enter 66 Try.func24 rfl rfl rfl ?_
  intro ρ hρ
  have e0 := hρ 0 _ rfl
  have e1 := hρ 1 _ rfl
  unfold F24 at h
  refine WC_seq ?_
  refine WC_region ?_
  refine WL_val gd0 ((o_assign (v := .int .u64 0) rfl) _) rfl ?_
  refine WL_nil ?_
  refine nrm ?_
  refine WC_cut (fun ρ w' => ρ 0 = .pointer r1 ∧ ρ 1 = .int .i64 width2 ∧ F24_j1 r1 width2 w' k) ?_ ?_
  · refine WC_cut (fun ρ w' => ∃ (t43 : Bool), ρ 19 = .bool t43 ∧ ρ 0 = .pointer r1 ∧ ρ 1 = .int .i64 width2 ∧ F24_j3 r1 width2 t43 w' k) ?_ ?_
    · refine WC_region ?_
      refine WL_val gd0 ((o_move (v := .int .i64 width2) (by exact e1)) _) rfl ?_
      refine WL_val gd0 ((o_lss rfl rfl) _) rfl ?_
      refine WL_val gd0 ((o_move (v := .bool (decide (width2 < 0))) rfl) _) rfl ?_
      refine bsplit (decide (width2 < 0)) (fun hb50 => ?_) (fun hb50 => ?_)
      · rw [if_pos (of_decide_eq_true hb50)] at h
        refine WL_skip (gdN (b := (decide (width2 < 0))) 10 rfl rfl hb50) rfl ?_
        refine WL_skip (gdN (b := (decide (width2 < 0))) 10 rfl rfl hb50) rfl ?_
        refine WL_val gd0 ((o_pickT (v := .bool true) rfl hb50 rfl) _) rfl ?_
        refine WL_val gd0 ((o_move (v := .bool true) rfl) _) rfl ?_
        refine WL_skip (gdN (b := true) 14 rfl rfl rfl) rfl ?_
        refine WL_skip (gdN (b := true) 14 rfl rfl rfl) rfl ?_
        refine WL_skip (gdN (b := true) 14 rfl rfl rfl) rfl ?_
        refine WL_skip (gdN (b := true) 14 rfl rfl rfl) rfl ?_
        refine WL_val gd0 ((o_pickT (v := .bool true) rfl rfl rfl) _) rfl ?_
        refine WL_nil ?_
        refine nrm ?_
        exact ⟨_, rfl, e0, e1, h⟩
      · rw [if_neg (of_decide_eq_false hb50)] at h
        refine WL_val (gdY (b := (decide (width2 < 0))) 10 rfl rfl hb50) ((o_move (v := .int .i64 width2) (by exact e1)) _) rfl ?_
        refine WL_val (gdY (b := (decide (width2 < 0))) 10 rfl rfl hb50) ((o_gtr rfl rfl) _) rfl ?_
        refine WL_val gd0 ((o_pickF (v := .bool (decide (64 < width2))) rfl hb50 rfl) _) rfl ?_
        refine WL_val gd0 ((o_move (v := .bool (decide (64 < width2))) rfl) _) rfl ?_
        refine bsplit (decide (64 < width2)) (fun hb51 => ?_) (fun hb51 => ?_)
        · rw [if_pos (of_decide_eq_true hb51)] at h
          refine WL_skip (gdN (b := (decide (64 < width2))) 14 rfl rfl hb51) rfl ?_
          refine WL_skip (gdN (b := (decide (64 < width2))) 14 rfl rfl hb51) rfl ?_
          refine WL_skip (gdN (b := (decide (64 < width2))) 14 rfl rfl hb51) rfl ?_
          refine WL_skip (gdN (b := (decide (64 < width2))) 14 rfl rfl hb51) rfl ?_
          refine WL_val gd0 ((o_pickT (v := .bool true) rfl hb51 rfl) _) rfl ?_
          refine WL_nil ?_
          refine nrm ?_
          exact ⟨_, rfl, e0, e1, h⟩
        · rw [if_neg (of_decide_eq_false hb51)] at h
          refine WL_val (gdY (b := (decide (64 < width2))) 14 rfl rfl hb51) ((o_move (v := .int .i64 width2) (by exact e1)) _) rfl ?_
          refine WL_val (gdY (b := (decide (64 < width2))) 14 rfl rfl hb51) ((o_move (v := .pointer r1) (by exact e0)) _) rfl ?_
          refine WL_call (gdY (b := (decide (64 < width2))) 14 rfl rfl hb51) (o_call Try.call25 (argCons rfl argNil) _) rfl (h.mono ?_)
          rintro _ w52 ⟨x53, rfl, h⟩
          refine WL_val (gdY (b := (decide (64 < width2))) 14 rfl rfl hb51) ((o_gtr rfl rfl) _) rfl ?_
          refine WL_val gd0 ((o_pickF (v := .bool (decide (x53 < width2))) rfl hb51 rfl) _) rfl ?_
          refine WL_nil ?_
          refine nrm ?_
          exact ⟨_, rfl, e0, e1, h⟩
    · rintro ρ w44 ⟨t43, e19_42, e0_40, e1_41, h⟩
      unfold F24_j3 at h
      refine WC_cond (t := t43) (by exact e19_42) (fun hb45 => ?_) (fun hb45 => ?_)
      · rw [if_pos hb45] at h
        refine WC_region ?_
        refine WL_val gd0 ((o_move (v := .pointer r1) (by exact e0_40)) _) rfl ?_
        obtain ⟨p46, q47, h⟩ := h
        refine WL_val gd0 ((o_nilCheck (by exact (congrArg Value.pointer q47))) _) rfl ?_
        refine WL_val gd0 ((o_fieldAddr 2 Try.underlying47 rfl Try.sizeOf4 rfl rfl rfl) _) rfl ?_
        obtain ⟨c49, h⟩ := h
        refine WL_act gd0 (o_store (v := .bool true) Try.sizeOf4 rfl rfl rfl c49) ?_
        generalize hw48 : World.setCell w44 (p46.add 2) (.bool true) = w48 at h ⊢
        try dsimp only at h
        refine WL_nil ?_
        refine nrm ?_
        exact ⟨e0_40, e1_41, h⟩
      · rw [if_neg (neT hb45)] at h
        refine WC_skip ?_
        refine nrm ?_
        exact ⟨e0_40, e1_41, h⟩
  · rintro ρ w6 ⟨e0_4, e1_5, h⟩
    unfold F24_j1 at h
    refine WC_seq ?_
    refine WC_seq ?_
    refine WC_region ?_
    refine WL_val gd0 ((o_move (v := .pointer r1) (by exact e0_4)) _) rfl ?_
    obtain ⟨p7, q8, h⟩ := h
    refine WL_val gd0 ((o_nilCheck (by exact (congrArg Value.pointer q8))) _) rfl ?_
    refine WL_val gd0 ((o_fieldAddr 2 Try.underlying47 rfl Try.sizeOf4 rfl rfl rfl) _) rfl ?_
    obtain ⟨x9, hc10, h⟩ := h
    refine WL_val gd0 (o_load Try.isAgg4 rfl hc10) rfl ?_
    refine WL_nil ?_
    refine nrm ?_
    refine WC_cond (t := x9) rfl (fun hb11 => ?_) (fun hb11 => ?_)
    · rw [if_pos hb11] at h
      refine WC_seq ?_
      refine WC_region ?_
      refine WL_val gd0 ((o_assign (v := .int .u64 0) rfl) _) rfl ?_
      refine WL_nil ?_
      refine nrm ?_
      refine WC_ret ?_
      refine rtT ?_
      refine rtE ?_
      exact gv1 rfl rfl h
    · rw [if_neg (neT hb11)] at h
      refine WC_skip ?_
      refine nrm ?_
      refine WC_seq ?_
      refine WC_region ?_
      refine WL_val gd0 ((o_assign (v := .int .u64 0) rfl) _) rfl ?_
      refine WL_nil ?_
      refine nrm ?_
      refine WC_seq ?_
      refine WC_seq ?_
      refine WC_region ?_
      refine WL_val gd0 ((o_assign (v := .int .i64 0) rfl) _) rfl ?_
      refine WL_nil ?_
      refine nrm ?_
      refine WC_block ?_
      obtain ⟨J18, ⟨n18, h0⟩, hr18⟩ := h
      refine WC_loop (fun n ρ w' => ∃ (n15 i17 : Int), ρ 5 = .int .u64 n15 ∧ ρ 6 = .int .i64 i17 ∧ ρ 0 = .pointer r1 ∧ ρ 1 = .int .i64 width2 ∧ J18 n (n15, i17) w') ⟨n18, _, _, rfl, rfl, e0_4, e1_5, h0⟩ ?_
      rintro n18 ρ w18 ⟨n15, i17, e5_14, e6_16, e0_12, e1_13, h⟩
      have h : F24_b2 width2 p7 n15 i17 w18 (fun x0 x1 w => ∃ m, m < n18 ∧ J18 m (x0, x1) w) k := hr18 n18 (n15, i17) w18 h
      unfold F24_b2 at h
      refine WC_seq ?_
      refine WC_seq ?_
      refine WC_region ?_
      refine WL_val gd0 ((o_move (v := .int .i64 i17) (by exact e6_16)) _) rfl ?_
      refine WL_val gd0 ((o_move (v := .int .i64 width2) (by exact e1_13)) _) rfl ?_
      refine WL_val gd0 ((o_lss rfl rfl) _) rfl ?_
      refine WL_nil ?_
      refine nrm ?_
      refine WC_cond (t := (decide (i17 < width2))) rfl (fun hb20 => ?_) (fun hb20 => ?_)
      · rw [if_pos (of_decide_eq_true hb20)] at h
        refine WC_skip ?_
        refine nrm ?_
        refine WC_seq ?_
        refine WC_block ?_
        refine WC_seq ?_
        refine WC_draws [(0, true), (1, true), (2, true), (3, true), (4, true), (5, true), (6, true), (7, true), (8, true), (9, true), (10, true), (11, true), (12, true), (13, true), (14, true), (15, true), (16, true), (17, true), (18, true), (19, true), (20, true)] Try.mixed (by kernel_rfl) ?_
        refine WQ_val rfl gd0 (o_move (v := .pointer r1) (by exact e0_12)) rfl ?_
        refine WQ_val rfl gd0 (o_nilCheck (by exact (congrArg Value.pointer q8))) rfl ?_
        refine WQ_val rfl gd0 (o_fieldAddr0 Try.underlying47 rfl Try.sizeOf27 rfl rfl rfl) rfl ?_
        obtain ⟨x_a21, x_n22, x_c23, hc24, h⟩ := h
        refine WQ_look (fun w => w.cell? p7 = some (.slice x_a21 x_n22 x_c23)) rfl gd0 (fun w hc => (o_load Try.isAgg27 rfl hc)) hc24 rfl ?_
        refine WQ_val rfl gd0 (o_move (v := .pointer r1) (by exact e0_12)) rfl ?_
        refine WQ_val rfl gd0 (o_nilCheck (by exact (congrArg Value.pointer q8))) rfl ?_
        refine WQ_val rfl gd0 (o_fieldAddr 1 Try.underlying47 rfl Try.sizeOf3 rfl rfl rfl) rfl ?_
        obtain ⟨x25, hc26, h⟩ := h
        refine WQ_look (fun w => w.cell? (p7.add 1) = some (.int .i64 x25)) rfl gd0 (fun w hc => (o_load Try.isAgg3 rfl hc)) hc26 rfl ?_
        refine WQ_val rfl gd0 (fun w => o_quo rfl rfl w (by decide)) rfl ?_
        obtain ⟨p29, q30, h⟩ := h
        obtain ⟨l27, u28, h⟩ := h
        refine WQ_val rfl gd0 (o_indexAddr1 Try.underlying27 Try.sizeOf5 (by exact (congrArg (fun z => Value.slice z x_n22 x_c23) q30)) rfl l27 u28) rfl ?_
        obtain ⟨x31, hc32, h⟩ := h
        refine WQ_look (fun w => w.cell? (p29.add ((IntKind.i64.wrap (Int.tdiv x25 8)).toNat)) = some (.int .u8 x31)) rfl gd0 (fun w hc => (o_load Try.isAgg5 rfl hc)) hc32 rfl ?_
        refine WQ_val rfl gd0 (o_move (v := .pointer r1) (by exact e0_12)) rfl ?_
        refine WQ_val rfl gd0 (o_nilCheck (by exact (congrArg Value.pointer q8))) rfl ?_
        refine WQ_val rfl gd0 (o_fieldAddr 1 Try.underlying47 rfl Try.sizeOf3 rfl rfl rfl) rfl ?_
        obtain ⟨x33, hc34, h⟩ := h
        refine WQ_look (fun w => w.cell? (p7.add 1) = some (.int .i64 x33)) rfl gd0 (fun w hc => (o_load Try.isAgg3 rfl hc)) hc34 rfl ?_
        refine WQ_val rfl gd0 (fun w => o_rem rfl rfl w (by decide)) rfl ?_
        refine WQ_val rfl gd0 (o_sub rfl rfl) rfl ?_
        refine WQ_val rfl gd0 (o_conv Try.underlying3 Try.underlying43 rfl) rfl ?_
        obtain ⟨c35, h⟩ := h
        refine WQ_val rfl gd0 (o_shr rfl rfl c35) rfl ?_
        refine WQ_val rfl gd0 (fun w => o_rem rfl rfl w (by decide)) rfl ?_
        refine WQ_val rfl gd0 (o_assign (v := .int .u8 (Int.tmod (shr .u8 x31 (IntKind.u64.wrap (IntKind.i64.wrap (7 - (Int.tmod x33 8))))) 2)) rfl) rfl ?_
        refine WQ_nil ?_
        refine nrm ?_
        refine WC_seq ?_
        refine WC_region ?_
        refine WL_val gd0 ((o_move (v := .int .u64 n15) (by exact e5_14)) _) rfl ?_
        refine WL_val gd0 ((o_mul rfl rfl) _) rfl ?_
        refine WL_val gd0 ((o_move (v := .int .u8 (Int.tmod (shr .u8 x31 (IntKind.u64.wrap (IntKind.i64.wrap (7 - (Int.tmod x33 8))))) 2)) rfl) _) rfl ?_
        refine WL_val gd0 ((o_conv Try.underlying5 Try.underlying31 rfl) _) rfl ?_
        refine WL_val gd0 ((o_add rfl rfl) _) rfl ?_
        refine WL_val gd0 ((o_assign (v := .int .u64 (IntKind.u64.wrap ((IntKind.u64.wrap (2 * n15)) + (IntKind.u64.wrap (Int.tmod (shr .u8 x31 (IntKind.u64.wrap (IntKind.i64.wrap (7 - (Int.tmod x33 8))))) 2))))) rfl) _) rfl ?_
        refine WL_nil ?_
        refine nrm ?_
        refine WC_region ?_
        refine WL_val gd0 ((o_move (v := .pointer r1) (by exact e0_12)) _) rfl ?_
        refine WL_val gd0 ((o_move (v := .pointer r1) (by exact e0_12)) _) rfl ?_
        refine WL_val gd0 ((o_nilCheck (by exact (congrArg Value.pointer q8))) _) rfl ?_
        refine WL_val gd0 ((o_fieldAddr 1 Try.underlying47 rfl Try.sizeOf3 rfl rfl rfl) _) rfl ?_
        obtain ⟨x36, hc37, h⟩ := h
        refine WL_val gd0 (o_load Try.isAgg3 rfl hc37) rfl ?_
        refine WL_val gd0 ((o_add rfl rfl) _) rfl ?_
        refine WL_val gd0 ((o_nilCheck (by exact (congrArg Value.pointer q8))) _) rfl ?_
        refine WL_val gd0 ((o_fieldAddr 1 Try.underlying47 rfl Try.sizeOf3 rfl rfl rfl) _) rfl ?_
        obtain ⟨c39, h⟩ := h
        refine WL_act gd0 (o_store (v := .int .i64 (IntKind.i64.wrap (x36 + 1))) Try.sizeOf3 rfl rfl rfl c39) ?_
        generalize hw38 : World.setCell w18.drew (p7.add 1) (.int .i64 (IntKind.i64.wrap (x36 + 1))) = w38 at h ⊢
        try dsimp only at h
        refine WL_nil ?_
        refine nrmB ?_
        refine nrm ?_
        refine WC_region ?_
        refine WL_val gd0 ((o_move (v := .int .i64 i17) (by exact e6_16)) _) rfl ?_
        refine WL_val gd0 ((o_add rfl rfl) _) rfl ?_
        refine WL_val gd0 ((o_assign (v := .int .i64 (IntKind.i64.wrap (i17 + 1))) rfl) _) rfl ?_
        refine WL_nil ?_
        refine nrm ?_
        obtain ⟨m19, hm19, h⟩ := h
        exact ⟨m19, hm19, _, _, rfl, rfl, e0_12, e1_13, h⟩
      · rw [if_neg (of_decide_eq_false hb20)] at h
        refine WC_exit ?_
        refine exT ?_
        refine exT ?_
        refine exB ?_
        refine nrm ?_
        refine WC_seq ?_
        refine WC_region ?_
        refine WL_val gd0 ((o_move (v := .int .u64 n15) (by exact e5_14)) _) rfl ?_
        refine WL_val gd0 ((o_assign (v := .int .u64 n15) rfl) _) rfl ?_
        refine WL_nil ?_
        refine nrm ?_
        refine WC_ret ?_
        refine rtE ?_
        exact gv1 rfl rfl h

/-- (*spacecraft spacecraftref02.Reader).Left -/
def F25 (r1 : Option Addr) (w2 : World) (k : Value → World → Prop) : Prop :=
  ∃ (p3 : Addr), r1 = some p3 ∧ ∃ (x5 : Bool), w2.cell? (p3.add 2) = some (.bool x5) ∧ if x5 = true then
  k (.int .i64 0) w2
else
  ∃ (x_a8 : Option Addr) (x_n9 x_c10 : Nat), w2.drew.cell? p3 = some (.slice x_a8 x_n9 x_c10) ∧ ∃ (x12 : Int), w2.drew.cell? (p3.add 1) = some (.int .i64 x12) ∧ k (.int .i64 (IntKind.i64.wrap ((IntKind.i64.wrap (8 * (x_n9 : Int))) - x12))) w2.drew
set_option maxRecDepth 100000 in
set_option maxHeartbeats 2000000 in
theorem w25 (r1 : Option Addr) (w2 : World) (k : Value → World → Prop) (h : F25 r1 w2 k) : Does Try.prog 25 #[.pointer r1] w2 k := by
  refine enter 18 Try.func25 rfl rfl rfl ?_
  intro ρ hρ
  have e0 := hρ 0 _ rfl
  unfold F25 at h
  refine WC_seq ?_
  refine WC_region ?_
  refine WL_val gd0 ((o_assign (v := .int .i64 0) rfl) _) rfl ?_
  refine WL_nil ?_
  refine nrm ?_
  refine WC_seq ?_
  refine WC_seq ?_
  refine WC_region ?_
  refine WL_val gd0 ((o_move (v := .pointer r1) (by exact e0)) _) rfl ?_
  obtain ⟨p3, q4, h⟩ := h
  refine WL_val gd0 ((o_nilCheck (by exact (congrArg Value.pointer q4))) _) rfl ?_
  refine WL_val gd0 ((o_fieldAddr 2 Try.underlying47 rfl Try.sizeOf4 rfl rfl rfl) _) rfl ?_
  obtain ⟨x5, hc6, h⟩ := h
  refine WL_val gd0 (o_load Try.isAgg4 rfl hc6) rfl ?_
  refine WL_nil ?_
  refine nrm ?_
  refine WC_cond (t := x5) rfl (fun hb7 => ?_) (fun hb7 => ?_)
  · rw [if_pos hb7] at h
    refine WC_seq ?_
    refine WC_region ?_
    refine WL_val gd0 ((o_assign (v := .int .i64 0) rfl) _) rfl ?_
    refine WL_nil ?_
    refine nrm ?_
    refine WC_ret ?_
    refine rtT ?_
    refine rtE ?_
    exact gv1 rfl rfl h
  · rw [if_neg (neT hb7)] at h
    refine WC_skip ?_
    refine nrm ?_
    refine WC_seq ?_
    refine WC_draws [(0, true), (1, true), (2, true), (3, true), (4, true), (5, true), (6, true), (7, true), (8, true), (9, true), (10, true), (11, true)] Try.mixed (by kernel_rfl) ?_
    refine WQ_val rfl gd0 (o_move (v := .pointer r1) (by exact e0)) rfl ?_
    refine WQ_val rfl gd0 (o_nilCheck (by exact (congrArg Value.pointer q4))) rfl ?_
    refine WQ_val rfl gd0 (o_fieldAddr0 Try.underlying47 rfl Try.sizeOf27 rfl rfl rfl) rfl ?_
    obtain ⟨x_a8, x_n9, x_c10, hc11, h⟩ := h
    refine WQ_look (fun w => w.cell? p3 = some (.slice x_a8 x_n9 x_c10)) rfl gd0 (fun w hc => (o_load Try.isAgg27 rfl hc)) hc11 rfl ?_
    refine WQ_val rfl gd0 (o_len Try.underlying27 rfl) rfl ?_
    refine WQ_val rfl gd0 (o_mul rfl rfl) rfl ?_
    refine WQ_val rfl gd0 (o_move (v := .pointer r1) (by exact e0)) rfl ?_
    refine WQ_val rfl gd0 (o_nilCheck (by exact (congrArg Value.pointer q4))) rfl ?_
    refine WQ_val rfl gd0 (o_fieldAddr 1 Try.underlying47 rfl Try.sizeOf3 rfl rfl rfl) rfl ?_
    obtain ⟨x12, hc13, h⟩ := h
    refine WQ_look (fun w => w.cell? (p3.add 1) = some (.int .i64 x12)) rfl gd0 (fun w hc => (o_load Try.isAgg3 rfl hc)) hc13 rfl ?_
    refine WQ_val rfl gd0 (o_sub rfl rfl) rfl ?_
    refine WQ_val rfl gd0 (o_assign (v := .int .i64 (IntKind.i64.wrap ((IntKind.i64.wrap (8 * (x_n9 : Int))) - x12))) rfl) rfl ?_
    refine WQ_nil ?_
    refine nrm ?_
    refine WC_ret ?_
    refine rtE ?_
    exact gv1 rfl rfl h

/-- (*spacecraft bits.Writer).ok -/
def F26 (w1 : Option Addr) (w2 : World) (k : Value → World → Prop) : Prop :=
  if (!(w1).isNone) = true then
  ∃ (p4 : Addr), w1 = some p4 ∧ ∃ (x6 : Bool), w2.cell? p4 = some (.bool x6) ∧ k (.bool x6) w2
else
  k (.bool false) w2
set_option maxRecDepth 100000 in
set_option maxHeartbeats 2000000 in
theorem w26 (w1 : Option Addr) (w2 : World) (k : Value → World → Prop) (h : F26 w1 w2 k) : Does Try.prog 26 #[.pointer w1] w2 k := by
  refine enter 11 Try.func26 rfl rfl rfl ?_
  intro ρ hρ
  have e0 := hρ 0 _ rfl
  unfold F26 at h
  refine WC_seq ?_
  refine WC_region ?_
  refine WL_val gd0 ((o_assign (v := .bool false) rfl) _) rfl ?_
  refine WL_nil ?_
  refine nrm ?_
  refine WC_seq ?_
  refine WC_region ?_
  refine WL_val gd0 ((o_move (v := .pointer w1) (by exact e0)) _) rfl ?_
  refine WL_val gd0 ((o_neqPtrNil Try.underlying23 rfl rfl) _) rfl ?_
  refine WL_val gd0 ((o_move (v := .bool (!(w1).isNone)) rfl) _) rfl ?_
  refine bsplit (!(w1).isNone) (fun hb3 => ?_) (fun hb3 => ?_)
  · rw [if_pos hb3] at h
    refine WL_val (gdY (b := (!(w1).isNone)) 5 rfl rfl hb3) ((o_move (v := .pointer w1) (by exact e0)) _) rfl ?_
    obtain ⟨p4, q5, h⟩ := h
    refine WL_val (gdY (b := (!(w1).isNone)) 5 rfl rfl hb3) ((o_nilCheck (by exact (congrArg Value.pointer q5))) _) rfl ?_
    refine WL_val (gdY (b := (!(w1).isNone)) 5 rfl rfl hb3) ((o_fieldAddr0 Try.underlying53 rfl Try.sizeOf4 rfl rfl rfl) _) rfl ?_
    obtain ⟨x6, hc7, h⟩ := h
    refine WL_val (gdY (b := (!(w1).isNone)) 5 rfl rfl hb3) (o_load Try.isAgg4 rfl hc7) rfl ?_
    refine WL_val gd0 ((o_pickT (v := .bool x6) rfl hb3 rfl) _) rfl ?_
    refine WL_val gd0 ((o_assign (v := .bool x6) rfl) _) rfl ?_
    refine WL_nil ?_
    refine nrm ?_
    refine WC_ret ?_
    refine rtE ?_
    exact gv1 rfl rfl h
  · rw [if_neg (neT hb3)] at h
    refine WL_skip (gdN (b := (!(w1).isNone)) 5 rfl rfl hb3) rfl ?_
    refine WL_skip (gdN (b := (!(w1).isNone)) 5 rfl rfl hb3) rfl ?_
    refine WL_skip (gdN (b := (!(w1).isNone)) 5 rfl rfl hb3) rfl ?_
    refine WL_skip (gdN (b := (!(w1).isNone)) 5 rfl rfl hb3) rfl ?_
    refine WL_val gd0 ((o_pickF (v := .bool false) rfl hb3 rfl) _) rfl ?_
    refine WL_val gd0 ((o_assign (v := .bool false) rfl) _) rfl ?_
    refine WL_nil ?_
    refine nrm ?_
    refine WC_ret ?_
    refine rtE ?_
    exact gv1 rfl rfl h

/-- (*spacecraft bits.Reader).ok -/
def F27 (r1 : Option Addr) (w2 : World) (k : Value → World → Prop) : Prop :=
  if (!(r1).isNone) = true then
  ∃ (p4 : Addr), r1 = some p4 ∧ ∃ (x6 : Bool), w2.cell? p4 = some (.bool x6) ∧ if x6 = true then
    ∃ (x9 : Bool), w2.cell? (p4.add 3) = some (.bool x9) ∧ k (.bool (!x9)) w2
  else
    k (.bool false) w2
else
  k (.bool false) w2
set_option maxRecDepth 100000 in
set_option maxHeartbeats 2000000 in
theorem w27 (r1 : Option Addr) (w2 : World) (k : Value → World → Prop) (h : F27 r1 w2 k) : Does Try.prog 27 #[.pointer r1] w2 k := by
  refine enter 18 Try.func27 rfl rfl rfl ?_
  intro ρ hρ
  have e0 := hρ 0 _ rfl
  unfold F27 at h
  refine WC_seq ?_
  refine WC_region ?_
  refine WL_val gd0 ((o_assign (v := .bool false) rfl) _) rfl ?_
  refine WL_nil ?_
  refine nrm ?_
  refine WC_seq ?_
  refine WC_region ?_
  refine WL_val gd0 ((o_move (v := .pointer r1) (by exact e0)) _) rfl ?_
  refine WL_val gd0 ((o_neqPtrNil Try.underlying38 rfl rfl) _) rfl ?_
  refine WL_val gd0 ((o_move (v := .bool (!(r1).isNone)) rfl) _) rfl ?_
  refine bsplit (!(r1).isNone) (fun hb3 => ?_) (fun hb3 => ?_)
  · rw [if_pos hb3] at h
    refine WL_val (gdY (b := (!(r1).isNone)) 5 rfl rfl hb3) ((o_move (v := .pointer r1) (by exact e0)) _) rfl ?_
    obtain ⟨p4, q5, h⟩ := h
    refine WL_val (gdY (b := (!(r1).isNone)) 5 rfl rfl hb3) ((o_nilCheck (by exact (congrArg Value.pointer q5))) _) rfl ?_
    refine WL_val (gdY (b := (!(r1).isNone)) 5 rfl rfl hb3) ((o_fieldAddr0 Try.underlying55 rfl Try.sizeOf4 rfl rfl rfl) _) rfl ?_
    obtain ⟨x6, hc7, h⟩ := h
    refine WL_val (gdY (b := (!(r1).isNone)) 5 rfl rfl hb3) (o_load Try.isAgg4 rfl hc7) rfl ?_
    refine WL_val gd0 ((o_pickT (v := .bool x6) rfl hb3 rfl) _) rfl ?_
    refine WL_val gd0 ((o_move (v := .bool x6) rfl) _) rfl ?_
    refine bsplit x6 (fun hb8 => ?_) (fun hb8 => ?_)
    · rw [if_pos hb8] at h
      refine WL_val (gdY (b := x6) 11 rfl rfl hb8) ((o_move (v := .pointer r1) (by exact e0)) _) rfl ?_
      refine WL_val (gdY (b := x6) 11 rfl rfl hb8) ((o_nilCheck (by exact (congrArg Value.pointer q5))) _) rfl ?_
      refine WL_val (gdY (b := x6) 11 rfl rfl hb8) ((o_fieldAddr 3 Try.underlying55 rfl Try.sizeOf4 rfl rfl rfl) _) rfl ?_
      obtain ⟨x9, hc10, h⟩ := h
      refine WL_val (gdY (b := x6) 11 rfl rfl hb8) (o_load Try.isAgg4 rfl hc10) rfl ?_
      refine WL_val (gdY (b := x6) 11 rfl rfl hb8) ((o_not rfl) _) rfl ?_
      refine WL_val gd0 ((o_pickT (v := .bool (!x9)) rfl hb8 rfl) _) rfl ?_
      refine WL_val gd0 ((o_assign (v := .bool (!x9)) rfl) _) rfl ?_
      refine WL_nil ?_
      refine nrm ?_
      refine WC_ret ?_
      refine rtE ?_
      exact gv1 rfl rfl h
    · rw [if_neg (neT hb8)] at h
      refine WL_skip (gdN (b := x6) 11 rfl rfl hb8) rfl ?_
      refine WL_skip (gdN (b := x6) 11 rfl rfl hb8) rfl ?_
      refine WL_skip (gdN (b := x6) 11 rfl rfl hb8) rfl ?_
      refine WL_skip (gdN (b := x6) 11 rfl rfl hb8) rfl ?_
      refine WL_skip (gdN (b := x6) 11 rfl rfl hb8) rfl ?_
      refine WL_val gd0 ((o_pickF (v := .bool false) rfl hb8 rfl) _) rfl ?_
      refine WL_val gd0 ((o_assign (v := .bool false) rfl) _) rfl ?_
      refine WL_nil ?_
      refine nrm ?_
      refine WC_ret ?_
      refine rtE ?_
      exact gv1 rfl rfl h
  · rw [if_neg (neT hb3)] at h
    refine WL_skip (gdN (b := (!(r1).isNone)) 5 rfl rfl hb3) rfl ?_
    refine WL_skip (gdN (b := (!(r1).isNone)) 5 rfl rfl hb3) rfl ?_
    refine WL_skip (gdN (b := (!(r1).isNone)) 5 rfl rfl hb3) rfl ?_
    refine WL_skip (gdN (b := (!(r1).isNone)) 5 rfl rfl hb3) rfl ?_
    refine WL_val gd0 ((o_pickF (v := .bool false) rfl hb3 rfl) _) rfl ?_
    refine WL_val gd0 ((o_move (v := .bool false) rfl) _) rfl ?_
    refine WL_skip (gdN (b := false) 11 rfl rfl rfl) rfl ?_
    refine WL_skip (gdN (b := false) 11 rfl rfl rfl) rfl ?_
    refine WL_skip (gdN (b := false) 11 rfl rfl rfl) rfl ?_
    refine WL_skip (gdN (b := false) 11 rfl rfl rfl) rfl ?_
    refine WL_skip (gdN (b := false) 11 rfl rfl rfl) rfl ?_
    refine WL_val gd0 ((o_pickF (v := .bool false) rfl rfl rfl) _) rfl ?_
    refine WL_val gd0 ((o_assign (v := .bool false) rfl) _) rfl ?_
    refine WL_nil ?_
    refine nrm ?_
    refine WC_ret ?_
    refine rtE ?_
    exact gv1 rfl rfl h


end Go.Proofs.Ytifhloambieoiaa
