/-
  The forms of the functions, and their walks: written by a program of this claim (gen.py) off the elaborated translation.
-/
import Derived.Test.YtmgolpbonleekaaProg
import Derived.Test.YtmgolpbonleekaaBase
import Derived.KernelRfl
namespace Go.Proofs.Ytmgolpbonleekaa
open Go Go.Sh Go.Proofs
set_option linter.unusedVariables false
theorem Try.mixed : Try.prog.follows .mixedOrders = true := by kernel_rfl
/-- spacecraft spacecraftlaw01.CrcSums -/
def F3 (b_a1 : Option Addr) (b_n2 : Nat) (b_c3 : Nat) (c4 : Int) (d5 : Int) (w6 : World) (k : Value → World → Prop) : Prop :=
  if 2000 < (b_n2 : Int) then
  Does Try.prog 8 #[] w6 (fun v w8 => ∃ (t9 : Bool), v = .bool t9 ∧ k (.bool t9) w8)
else
  Does Try.prog 9 #[.slice b_a1 b_n2 b_c3] w6 (fun v w10 => ∃ (x11 : Int), v = .int .u16 x11 ∧ Does Try.prog 10 #[.slice b_a1 b_n2 b_c3] w10 (fun v w12 => ∃ (x13 : Int), v = .int .u16 x13 ∧ if x11 = x13 then
    Does Try.prog 11 #[.int .u16 c4, .slice b_a1 b_n2 b_c3] w12 (fun v w15 => ∃ (x16 : Int), v = .int .u16 x16 ∧ Does Try.prog 12 #[.int .u16 c4, .slice b_a1 b_n2 b_c3] w15 (fun v w17 => ∃ (x18 : Int), v = .int .u16 x18 ∧ if x16 = x18 then
      Does Try.prog 13 #[.slice b_a1 b_n2 b_c3] w17 (fun v w20 => ∃ (x21 : Int), v = .int .u32 x21 ∧ Does Try.prog 14 #[.slice b_a1 b_n2 b_c3] w20 (fun v w22 => ∃ (x23 : Int), v = .int .u32 x23 ∧ if x21 = x23 then
        Does Try.prog 15 #[.int .u32 d5, .slice b_a1 b_n2 b_c3] w22 (fun v w25 => ∃ (x26 : Int), v = .int .u32 x26 ∧ Does Try.prog 16 #[.int .u32 d5, .slice b_a1 b_n2 b_c3] w25 (fun v w27 => ∃ (x28 : Int), v = .int .u32 x28 ∧ if x26 = x28 then
          Does Try.prog 8 #[] w27 (fun v w30 => ∃ (x31 : Bool), v = .bool x31 ∧ k (.bool x31) w30)
        else
          k (.bool false) w27))
      else
        k (.bool false) w22))
    else
      k (.bool false) w17))
  else
    k (.bool false) w12))
set_option maxRecDepth 100000 in
set_option maxHeartbeats 2000000 in
theorem w3 (b_a1 : Option Addr) (b_n2 : Nat) (b_c3 : Nat) (c4 : Int) (d5 : Int) (w6 : World) (k : Value → World → Prop) (h : F3 b_a1 b_n2 b_c3 c4 d5 w6 k) : Does Try.prog 3 #[.slice b_a1 b_n2 b_c3, .int .u16 c4, .int .u32 d5] w6 k := by
  refine enter 44 Try.func3 rfl rfl rfl ?_
  intro ρ hρ
  have e0 := hρ 0 _ rfl
  have e1 := hρ 1 _ rfl
  have e2 := hρ 2 _ rfl
  unfold F3 at h
  refine WC_seq ?_
  refine WC_region ?_
  refine WL_val gd0 ((o_assign (v := .bool false) rfl) _) rfl ?_
  refine WL_nil ?_
  refine nrm ?_
  refine WC_seq ?_
  refine WC_seq ?_
  refine WC_region ?_
  refine WL_val gd0 ((o_move (v := .slice b_a1 b_n2 b_c3) (by exact e0)) _) rfl ?_
  refine WL_val gd0 ((o_len Try.underlying22 rfl) _) rfl ?_
  refine WL_val gd0 ((o_gtr rfl rfl) _) rfl ?_
  refine WL_nil ?_
  refine nrm ?_
  refine WC_cond (t := (decide (2000 < (b_n2 : Int)))) rfl (fun hb7 => ?_) (fun hb7 => ?_)
  · rw [if_pos (of_decide_eq_true hb7)] at h
    refine WC_seq ?_
    refine WC_region ?_
    refine WL_call gd0 (o_call Try.call8 argNil _) rfl (h.mono ?_)
    rintro _ w8 ⟨t9, rfl, h⟩
    refine WL_val gd0 ((o_assign (v := .bool t9) rfl) _) rfl ?_
    refine WL_nil ?_
    refine nrm ?_
    refine WC_ret ?_
    refine rtT ?_
    refine rtE ?_
    exact gv1 rfl rfl h
  · rw [if_neg (of_decide_eq_false hb7)] at h
    refine WC_skip ?_
    refine nrm ?_
    refine WC_seq ?_
    refine WC_region ?_
    refine WL_val gd0 ((o_move (v := .slice b_a1 b_n2 b_c3) (by exact e0)) _) rfl ?_
    refine WL_call gd0 (o_call Try.call9 (argCons rfl argNil) _) rfl (h.mono ?_)
    rintro _ w10 ⟨x11, rfl, h⟩
    refine WL_val gd0 ((o_move (v := .slice b_a1 b_n2 b_c3) (by exact e0)) _) rfl ?_
    refine WL_call gd0 (o_call Try.call10 (argCons rfl argNil) _) rfl (h.mono ?_)
    rintro _ w12 ⟨x13, rfl, h⟩
    refine WL_val gd0 ((o_eql rfl rfl) _) rfl ?_
    refine WL_val gd0 ((o_move (v := .bool (decide (x11 = x13))) rfl) _) rfl ?_
    refine bsplit (decide (x11 = x13)) (fun hb14 => ?_) (fun hb14 => ?_)
    · rw [if_pos (of_decide_eq_true hb14)] at h
      refine WL_val (gdY (b := (decide (x11 = x13))) 16 rfl rfl hb14) ((o_move (v := .int .u16 c4) (by exact e1)) _) rfl ?_
      refine WL_val (gdY (b := (decide (x11 = x13))) 16 rfl rfl hb14) ((o_move (v := .slice b_a1 b_n2 b_c3) (by exact e0)) _) rfl ?_
      refine WL_call (gdY (b := (decide (x11 = x13))) 16 rfl rfl hb14) (o_call Try.call11 (argCons rfl (argCons rfl argNil)) _) rfl (h.mono ?_)
      rintro _ w15 ⟨x16, rfl, h⟩
      refine WL_val (gdY (b := (decide (x11 = x13))) 16 rfl rfl hb14) ((o_move (v := .int .u16 c4) (by exact e1)) _) rfl ?_
      refine WL_val (gdY (b := (decide (x11 = x13))) 16 rfl rfl hb14) ((o_move (v := .slice b_a1 b_n2 b_c3) (by exact e0)) _) rfl ?_
      refine WL_call (gdY (b := (decide (x11 = x13))) 16 rfl rfl hb14) (o_call Try.call12 (argCons rfl (argCons rfl argNil)) _) rfl (h.mono ?_)
      rintro _ w17 ⟨x18, rfl, h⟩
      refine WL_val (gdY (b := (decide (x11 = x13))) 16 rfl rfl hb14) ((o_eql rfl rfl) _) rfl ?_
      refine WL_val gd0 ((o_pickT (v := .bool (decide (x16 = x18))) rfl hb14 rfl) _) rfl ?_
      refine WL_val gd0 ((o_move (v := .bool (decide (x16 = x18))) rfl) _) rfl ?_
      refine bsplit (decide (x16 = x18)) (fun hb19 => ?_) (fun hb19 => ?_)
      · rw [if_pos (of_decide_eq_true hb19)] at h
        refine WL_val (gdY (b := (decide (x16 = x18))) 25 rfl rfl hb19) ((o_move (v := .slice b_a1 b_n2 b_c3) (by exact e0)) _) rfl ?_
        refine WL_call (gdY (b := (decide (x16 = x18))) 25 rfl rfl hb19) (o_call Try.call13 (argCons rfl argNil) _) rfl (h.mono ?_)
        rintro _ w20 ⟨x21, rfl, h⟩
        refine WL_val (gdY (b := (decide (x16 = x18))) 25 rfl rfl hb19) ((o_move (v := .slice b_a1 b_n2 b_c3) (by exact e0)) _) rfl ?_
        refine WL_call (gdY (b := (decide (x16 = x18))) 25 rfl rfl hb19) (o_call Try.call14 (argCons rfl argNil) _) rfl (h.mono ?_)
        rintro _ w22 ⟨x23, rfl, h⟩
        refine WL_val (gdY (b := (decide (x16 = x18))) 25 rfl rfl hb19) ((o_eql rfl rfl) _) rfl ?_
        refine WL_val gd0 ((o_pickT (v := .bool (decide (x21 = x23))) rfl hb19 rfl) _) rfl ?_
        refine WL_val gd0 ((o_move (v := .bool (decide (x21 = x23))) rfl) _) rfl ?_
        refine bsplit (decide (x21 = x23)) (fun hb24 => ?_) (fun hb24 => ?_)
        · rw [if_pos (of_decide_eq_true hb24)] at h
          refine WL_val (gdY (b := (decide (x21 = x23))) 32 rfl rfl hb24) ((o_move (v := .int .u32 d5) (by exact e2)) _) rfl ?_
          refine WL_val (gdY (b := (decide (x21 = x23))) 32 rfl rfl hb24) ((o_move (v := .slice b_a1 b_n2 b_c3) (by exact e0)) _) rfl ?_
          refine WL_call (gdY (b := (decide (x21 = x23))) 32 rfl rfl hb24) (o_call Try.call15 (argCons rfl (argCons rfl argNil)) _) rfl (h.mono ?_)
          rintro _ w25 ⟨x26, rfl, h⟩
          refine WL_val (gdY (b := (decide (x21 = x23))) 32 rfl rfl hb24) ((o_move (v := .int .u32 d5) (by exact e2)) _) rfl ?_
          refine WL_val (gdY (b := (decide (x21 = x23))) 32 rfl rfl hb24) ((o_move (v := .slice b_a1 b_n2 b_c3) (by exact e0)) _) rfl ?_
          refine WL_call (gdY (b := (decide (x21 = x23))) 32 rfl rfl hb24) (o_call Try.call16 (argCons rfl (argCons rfl argNil)) _) rfl (h.mono ?_)
          rintro _ w27 ⟨x28, rfl, h⟩
          refine WL_val (gdY (b := (decide (x21 = x23))) 32 rfl rfl hb24) ((o_eql rfl rfl) _) rfl ?_
          refine WL_val gd0 ((o_pickT (v := .bool (decide (x26 = x28))) rfl hb24 rfl) _) rfl ?_
          refine WL_val gd0 ((o_move (v := .bool (decide (x26 = x28))) rfl) _) rfl ?_
          refine bsplit (decide (x26 = x28)) (fun hb29 => ?_) (fun hb29 => ?_)
          · rw [if_pos (of_decide_eq_true hb29)] at h
            refine WL_call (gdY (b := (decide (x26 = x28))) 41 rfl rfl hb29) (o_call Try.call8 argNil _) rfl (h.mono ?_)
            rintro _ w30 ⟨x31, rfl, h⟩
            refine WL_val gd0 ((o_pickT (v := .bool x31) rfl hb29 rfl) _) rfl ?_
            refine WL_val gd0 ((o_assign (v := .bool x31) rfl) _) rfl ?_
            refine WL_nil ?_
            refine nrm ?_
            refine WC_ret ?_
            refine rtE ?_
            exact gv1 rfl rfl h
          · rw [if_neg (of_decide_eq_false hb29)] at h
            refine WL_skip (gdN (b := (decide (x26 = x28))) 41 rfl rfl hb29) rfl ?_
            refine WL_val gd0 ((o_pickF (v := .bool false) rfl hb29 rfl) _) rfl ?_
            refine WL_val gd0 ((o_assign (v := .bool false) rfl) _) rfl ?_
            refine WL_nil ?_
            refine nrm ?_
            refine WC_ret ?_
            refine rtE ?_
            exact gv1 rfl rfl h
        · rw [if_neg (of_decide_eq_false hb24)] at h
          refine WL_skip (gdN (b := (decide (x21 = x23))) 32 rfl rfl hb24) rfl ?_
          refine WL_skip (gdN (b := (decide (x21 = x23))) 32 rfl rfl hb24) rfl ?_
          refine WL_skip (gdN (b := (decide (x21 = x23))) 32 rfl rfl hb24) rfl ?_
          refine WL_skip (gdN (b := (decide (x21 = x23))) 32 rfl rfl hb24) rfl ?_
          refine WL_skip (gdN (b := (decide (x21 = x23))) 32 rfl rfl hb24) rfl ?_
          refine WL_skip (gdN (b := (decide (x21 = x23))) 32 rfl rfl hb24) rfl ?_
          refine WL_skip (gdN (b := (decide (x21 = x23))) 32 rfl rfl hb24) rfl ?_
          refine WL_val gd0 ((o_pickF (v := .bool false) rfl hb24 rfl) _) rfl ?_
          refine WL_val gd0 ((o_move (v := .bool false) rfl) _) rfl ?_
          refine WL_skip (gdN (b := false) 41 rfl rfl rfl) rfl ?_
          refine WL_val gd0 ((o_pickF (v := .bool false) rfl rfl rfl) _) rfl ?_
          refine WL_val gd0 ((o_assign (v := .bool false) rfl) _) rfl ?_
          refine WL_nil ?_
          refine nrm ?_
          refine WC_ret ?_
          refine rtE ?_
          exact gv1 rfl rfl h
      · rw [if_neg (of_decide_eq_false hb19)] at h
        refine WL_skip (gdN (b := (decide (x16 = x18))) 25 rfl rfl hb19) rfl ?_
        refine WL_skip (gdN (b := (decide (x16 = x18))) 25 rfl rfl hb19) rfl ?_
        refine WL_skip (gdN (b := (decide (x16 = x18))) 25 rfl rfl hb19) rfl ?_
        refine WL_skip (gdN (b := (decide (x16 = x18))) 25 rfl rfl hb19) rfl ?_
        refine WL_skip (gdN (b := (decide (x16 = x18))) 25 rfl rfl hb19) rfl ?_
        refine WL_val gd0 ((o_pickF (v := .bool false) rfl hb19 rfl) _) rfl ?_
        refine WL_val gd0 ((o_move (v := .bool false) rfl) _) rfl ?_
        refine WL_skip (gdN (b := false) 32 rfl rfl rfl) rfl ?_
        refine WL_skip (gdN (b := false) 32 rfl rfl rfl) rfl ?_
        refine WL_skip (gdN (b := false) 32 rfl rfl rfl) rfl ?_
        refine WL_skip (gdN (b := false) 32 rfl rfl rfl) rfl ?_
        refine WL_skip (gdN (b := false) 32 rfl rfl rfl) rfl ?_
        refine WL_skip (gdN (b := false) 32 rfl rfl rfl) rfl ?_
        refine WL_skip (gdN (b := false) 32 rfl rfl rfl) rfl ?_
        refine WL_val gd0 ((o_pickF (v := .bool false) rfl rfl rfl) _) rfl ?_
        refine WL_val gd0 ((o_move (v := .bool false) rfl) _) rfl ?_
        refine WL_skip (gdN (b := false) 41 rfl rfl rfl) rfl ?_
        refine WL_val gd0 ((o_pickF (v := .bool false) rfl rfl rfl) _) rfl ?_
        refine WL_val gd0 ((o_assign (v := .bool false) rfl) _) rfl ?_
        refine WL_nil ?_
        refine nrm ?_
        refine WC_ret ?_
        refine rtE ?_
        exact gv1 rfl rfl h
    · rw [if_neg (of_decide_eq_false hb14)] at h
      refine WL_skip (gdN (b := (decide (x11 = x13))) 16 rfl rfl hb14) rfl ?_
      refine WL_skip (gdN (b := (decide (x11 = x13))) 16 rfl rfl hb14) rfl ?_
      refine WL_skip (gdN (b := (decide (x11 = x13))) 16 rfl rfl hb14) rfl ?_
      refine WL_skip (gdN (b := (decide (x11 = x13))) 16 rfl rfl hb14) rfl ?_
      refine WL_skip (gdN (b := (decide (x11 = x13))) 16 rfl rfl hb14) rfl ?_
      refine WL_skip (gdN (b := (decide (x11 = x13))) 16 rfl rfl hb14) rfl ?_
      refine WL_skip (gdN (b := (decide (x11 = x13))) 16 rfl rfl hb14) rfl ?_
      refine WL_val gd0 ((o_pickF (v := .bool false) rfl hb14 rfl) _) rfl ?_
      refine WL_val gd0 ((o_move (v := .bool false) rfl) _) rfl ?_
      refine WL_skip (gdN (b := false) 25 rfl rfl rfl) rfl ?_
      refine WL_skip (gdN (b := false) 25 rfl rfl rfl) rfl ?_
      refine WL_skip (gdN (b := false) 25 rfl rfl rfl) rfl ?_
      refine WL_skip (gdN (b := false) 25 rfl rfl rfl) rfl ?_
      refine WL_skip (gdN (b := false) 25 rfl rfl rfl) rfl ?_
      refine WL_val gd0 ((o_pickF (v := .bool false) rfl rfl rfl) _) rfl ?_
      refine WL_val gd0 ((o_move (v := .bool false) rfl) _) rfl ?_
      refine WL_skip (gdN (b := false) 32 rfl rfl rfl) rfl ?_
      refine WL_skip (gdN (b := false) 32 rfl rfl rfl) rfl ?_
      refine WL_skip (gdN (b := false) 32 rfl rfl rfl) rfl ?_
      refine WL_skip (gdN (b := false) 32 rfl rfl rfl) rfl ?_
      refine WL_skip (gdN (b := false) 32 rfl rfl rfl) rfl ?_
      refine WL_skip (gdN (b := false) 32 rfl rfl rfl) rfl ?_
      refine WL_skip (gdN (b := false) 32 rfl rfl rfl) rfl ?_
      refine WL_val gd0 ((o_pickF (v := .bool false) rfl rfl rfl) _) rfl ?_
      refine WL_val gd0 ((o_move (v := .bool false) rfl) _) rfl ?_
      refine WL_skip (gdN (b := false) 41 rfl rfl rfl) rfl ?_
      refine WL_val gd0 ((o_pickF (v := .bool false) rfl rfl rfl) _) rfl ?_
      refine WL_val gd0 ((o_assign (v := .bool false) rfl) _) rfl ?_
      refine WL_nil ?_
      refine nrm ?_
      refine WC_ret ?_
      refine rtE ?_
      exact gv1 rfl rfl h

/-- spacecraft spacecraftlaw01.CrcChecks -/
def F4 (b_a1 : Option Addr) (b_n2 : Nat) (b_c3 : Nat) (w4 : World) (k : Value → World → Prop) : Prop :=
  if 2000 < (b_n2 : Int) then
  Does Try.prog 8 #[] w4 (fun v w6 => ∃ (t7 : Bool), v = .bool t7 ∧ k (.bool t7) w6)
else
  Does Try.prog 17 #[.slice b_a1 b_n2 b_c3] w4.drew (fun v w8 => ∃ (x_a9 : Option Addr) (x_n10 x_c11 : Nat), v = .slice x_a9 x_n10 x_c11 ∧ ∃ (s12 : ByteArray), (Conv.bytesToString (.slice x_a9 x_n10 x_c11)).run Try.prog w8 = .ok (.string s12) w8 ∧ Does Try.prog 18 #[.slice b_a1 b_n2 b_c3] w8 (fun v w14 => ∃ (x_a15 : Option Addr) (x_n16 x_c17 : Nat), v = .slice x_a15 x_n16 x_c17 ∧ (Conv.bytesToString (.slice x_a9 x_n10 x_c11)).run Try.prog w14 = .ok (.string s12) w14 ∧ ∃ (s19 : ByteArray), (Conv.bytesToString (.slice x_a15 x_n16 x_c17)).run Try.prog w14 = .ok (.string s19) w14 ∧ if (s12.toList == s19.toList) = true then
    Does Try.prog 19 #[.slice b_a1 b_n2 b_c3] w14 (fun v w22 => ∃ (x23 : Bool), v = .bool x23 ∧ Does Try.prog 20 #[.slice b_a1 b_n2 b_c3] w22 (fun v w24 => ∃ (x25 : Bool), v = .bool x25 ∧ if (x23 == x25) = true then
      Does Try.prog 8 #[] w24 (fun v w27 => ∃ (x28 : Bool), v = .bool x28 ∧ k (.bool x28) w27)
    else
      k (.bool false) w24))
  else
    k (.bool false) w14))
set_option maxRecDepth 100000 in
set_option maxHeartbeats 2000000 in
theorem w4 (b_a1 : Option Addr) (b_n2 : Nat) (b_c3 : Nat) (w4 : World) (k : Value → World → Prop) (h : F4 b_a1 b_n2 b_c3 w4 k) : Does Try.prog 4 #[.slice b_a1 b_n2 b_c3] w4 k := by
  refine enter 24 Try.func4 rfl rfl rfl ?_
  intro ρ hρ
  have e0 := hρ 0 _ rfl
  unfold F4 at h
  refine WC_seq ?_
  refine WC_region ?_
  refine WL_val gd0 ((o_assign (v := .bool false) rfl) _) rfl ?_
  refine WL_nil ?_
  refine nrm ?_
  refine WC_seq ?_
  refine WC_seq ?_
  refine WC_region ?_
  refine WL_val gd0 ((o_move (v := .slice b_a1 b_n2 b_c3) (by exact e0)) _) rfl ?_
  refine WL_val gd0 ((o_len Try.underlying22 rfl) _) rfl ?_
  refine WL_val gd0 ((o_gtr rfl rfl) _) rfl ?_
  refine WL_nil ?_
  refine nrm ?_
  refine WC_cond (t := (decide (2000 < (b_n2 : Int)))) rfl (fun hb5 => ?_) (fun hb5 => ?_)
  · rw [if_pos (of_decide_eq_true hb5)] at h
    refine WC_seq ?_
    refine WC_region ?_
    refine WL_call gd0 (o_call Try.call8 argNil _) rfl (h.mono ?_)
    rintro _ w6 ⟨t7, rfl, h⟩
    refine WL_val gd0 ((o_assign (v := .bool t7) rfl) _) rfl ?_
    refine WL_nil ?_
    refine nrm ?_
    refine WC_ret ?_
    refine rtT ?_
    refine rtE ?_
    exact gv1 rfl rfl h
  · rw [if_neg (of_decide_eq_false hb5)] at h
    refine WC_skip ?_
    refine nrm ?_
    refine WC_seq ?_
    refine WC_draws [(0, true), (3, true), (1, false), (2, true), (4, false), (5, true), (6, true), (7, true), (8, true), (10, true), (9, false), (11, false), (12, true), (13, true), (14, true), (15, false), (16, true), (17, true)] Try.mixed (by kernel_rfl) ?_
    refine WQ_val rfl gd0 (o_move (v := .slice b_a1 b_n2 b_c3) (by exact e0)) rfl ?_
    refine WQ_val rfl gd0 (o_move (v := .slice b_a1 b_n2 b_c3) (by exact e0)) rfl ?_
    refine WQ_call rfl gd0 (o_call Try.call17 (argCons rfl argNil) _) rfl (h.mono ?_)
    rintro _ w8 ⟨x_a9, x_n10, x_c11, rfl, h⟩
    refine ⟨trivial, ?_⟩
    obtain ⟨s12, r13, h⟩ := h
    refine WQ_look (fun w => (Conv.bytesToString (.slice x_a9 x_n10 x_c11)).run Try.prog w = .ok (.string s12) w) rfl gd0 (fun w hc => (o_toStr Try.underlying22 Try.underlying5 Try.underlying9 rfl hc)) r13 rfl ?_
    refine WQ_call rfl gd0 (o_call Try.call18 (argCons rfl argNil) _) rfl (h.mono ?_)
    rintro _ w14 ⟨x_a15, x_n16, x_c17, rfl, hh18, h⟩
    refine ⟨⟨trivial, fun _ => hh18⟩, ?_⟩
    obtain ⟨s19, r20, h⟩ := h
    refine WQ_look (fun w => (Conv.bytesToString (.slice x_a15 x_n16 x_c17)).run Try.prog w = .ok (.string s19) w) rfl gd0 (fun w hc => (o_toStr Try.underlying22 Try.underlying5 Try.underlying9 rfl hc)) r20 rfl ?_
    refine WQ_val rfl gd0 (o_eqlStr rfl rfl) rfl ?_
    refine WQ_val rfl gd0 (o_move (v := .bool (s12.toList == s19.toList)) rfl) rfl ?_
    refine bsplit (s12.toList == s19.toList) (fun hb21 => ?_) (fun hb21 => ?_)
    · rw [if_pos hb21] at h
      refine WQ_val rfl (gdY (b := (s12.toList == s19.toList)) 14 rfl rfl hb21) (o_move (v := .slice b_a1 b_n2 b_c3) (by exact e0)) rfl ?_
      refine WQ_val rfl (gdY (b := (s12.toList == s19.toList)) 14 rfl rfl hb21) (o_move (v := .slice b_a1 b_n2 b_c3) (by exact e0)) rfl ?_
      refine WQ_call rfl (gdY (b := (s12.toList == s19.toList)) 14 rfl rfl hb21) (o_call Try.call19 (argCons rfl argNil) _) rfl (h.mono ?_)
      rintro _ w22 ⟨x23, rfl, h⟩
      refine ⟨⟨⟨trivial, depT (by kernel_rfl)⟩, depT (by kernel_rfl)⟩, ?_⟩
      refine WQ_call rfl (gdY (b := (s12.toList == s19.toList)) 14 rfl rfl hb21) (o_call Try.call20 (argCons rfl argNil) _) rfl (h.mono ?_)
      rintro _ w24 ⟨x25, rfl, h⟩
      refine ⟨⟨⟨trivial, depT (by kernel_rfl)⟩, depT (by kernel_rfl)⟩, ?_⟩
      refine WQ_val rfl (gdY (b := (s12.toList == s19.toList)) 14 rfl rfl hb21) (o_eqlBool Try.underlying4 rfl rfl) rfl ?_
      refine WQ_val rfl gd0 (o_pickT (v := .bool (x23 == x25)) rfl hb21 rfl) rfl ?_
      refine WQ_val rfl gd0 (o_move (v := .bool (x23 == x25)) rfl) rfl ?_
      refine bsplit (x23 == x25) (fun hb26 => ?_) (fun hb26 => ?_)
      · rw [if_pos hb26] at h
        refine WQ_call rfl (gdY (b := (x23 == x25)) 21 rfl rfl hb26) (o_call Try.call8 argNil _) rfl (h.mono ?_)
        rintro _ w27 ⟨x28, rfl, h⟩
        refine ⟨⟨⟨trivial, depT (by kernel_rfl)⟩, depT (by kernel_rfl)⟩, ?_⟩
        refine WQ_val rfl gd0 (o_pickT (v := .bool x28) rfl hb26 rfl) rfl ?_
        refine WQ_val rfl gd0 (o_assign (v := .bool x28) rfl) rfl ?_
        refine WQ_nil ?_
        refine nrm ?_
        refine WC_ret ?_
        refine rtE ?_
        exact gv1 rfl rfl h
      · rw [if_neg (neT hb26)] at h
        refine WQ_passAct rfl (gdN (b := (x23 == x25)) 21 rfl rfl hb26) rfl (by exact ⟨⟨trivial, depT (by kernel_rfl)⟩, depT (by kernel_rfl)⟩) ?_
        refine WQ_val rfl gd0 (o_pickF (v := .bool false) rfl hb26 rfl) rfl ?_
        refine WQ_val rfl gd0 (o_assign (v := .bool false) rfl) rfl ?_
        refine WQ_nil ?_
        refine nrm ?_
        refine WC_ret ?_
        refine rtE ?_
        exact gv1 rfl rfl h
    · rw [if_neg (neT hb21)] at h
      refine WQ_skip rfl (gdN (b := (s12.toList == s19.toList)) 14 rfl rfl hb21) rfl ?_
      refine WQ_skip rfl (gdN (b := (s12.toList == s19.toList)) 14 rfl rfl hb21) rfl ?_
      refine WQ_passAct rfl (gdN (b := (s12.toList == s19.toList)) 14 rfl rfl hb21) rfl (by exact ⟨⟨trivial, depT (by kernel_rfl)⟩, depT (by kernel_rfl)⟩) ?_
      refine WQ_passAct rfl (gdN (b := (s12.toList == s19.toList)) 14 rfl rfl hb21) rfl (by exact ⟨⟨trivial, depT (by kernel_rfl)⟩, depT (by kernel_rfl)⟩) ?_
      refine WQ_skip rfl (gdN (b := (s12.toList == s19.toList)) 14 rfl rfl hb21) rfl ?_
      refine WQ_val rfl gd0 (o_pickF (v := .bool false) rfl hb21 rfl) rfl ?_
      refine WQ_val rfl gd0 (o_move (v := .bool false) rfl) rfl ?_
      refine WQ_passAct rfl (gdN (b := false) 21 rfl rfl rfl) rfl (by exact ⟨⟨trivial, depT (by kernel_rfl)⟩, depT (by kernel_rfl)⟩) ?_
      refine WQ_val rfl gd0 (o_pickF (v := .bool false) rfl rfl rfl) rfl ?_
      refine WQ_val rfl gd0 (o_assign (v := .bool false) rfl) rfl ?_
      refine WQ_nil ?_
      refine nrm ?_
      refine WC_ret ?_
      refine rtE ?_
      exact gv1 rfl rfl h

def F5_j1 (a_a1 : Option Addr) (a_n2 : Nat) (a_c3 : Nat) (b_a4 : Option Addr) (b_n5 : Nat) (b_c6 : Nat) (c7 : Int) (d8 : Int) (t15 : Bool) (w16 : World) (k : Value → World → Prop) : Prop :=
  if t15 = true then
  Does Try.prog 8 #[] w16 (fun v w18 => ∃ (t19 : Bool), v = .bool t19 ∧ k (.bool t19) w18)
else
  New w16 5 [] (fun p20 w21 => ∃ (b_a22 : Option Addr) (b_n23 b_c24 : Nat) (w25 : World), (Builtin.append_ #[22, 22] 22 #[.slice (some p20) 0 0, .slice a_a1 a_n2 a_c3]).run Try.prog w21 = .ok (.slice b_a22 b_n23 b_c24) w25 ∧ ∃ (b_a27 : Option Addr) (b_n28 b_c29 : Nat) (w30 : World), (Builtin.append_ #[22, 22] 22 #[.slice b_a22 b_n23 b_c24, .slice b_a4 b_n5 b_c6]).run Try.prog w25 = .ok (.slice b_a27 b_n28 b_c29) w30 ∧ Does Try.prog 9 #[.slice a_a1 a_n2 a_c3] w30 (fun v w32 => ∃ (x33 : Int), v = .int .u16 x33 ∧ Does Try.prog 11 #[.int .u16 x33, .slice b_a4 b_n5 b_c6] w32 (fun v w34 => ∃ (x35 : Int), v = .int .u16 x35 ∧ Does Try.prog 9 #[.slice b_a27 b_n28 b_c29] w34 (fun v w36 => ∃ (x37 : Int), v = .int .u16 x37 ∧ if x35 = x37 then
    Does Try.prog 13 #[.slice a_a1 a_n2 a_c3] w36 (fun v w39 => ∃ (x40 : Int), v = .int .u32 x40 ∧ Does Try.prog 15 #[.int .u32 x40, .slice b_a4 b_n5 b_c6] w39 (fun v w41 => ∃ (x42 : Int), v = .int .u32 x42 ∧ Does Try.prog 13 #[.slice b_a27 b_n28 b_c29] w41 (fun v w43 => ∃ (x44 : Int), v = .int .u32 x44 ∧ if x42 = x44 then
      Does Try.prog 11 #[.int .u16 c7, .slice a_a1 a_n2 a_c3] w43 (fun v w46 => ∃ (x47 : Int), v = .int .u16 x47 ∧ Does Try.prog 11 #[.int .u16 x47, .slice b_a4 b_n5 b_c6] w46 (fun v w48 => ∃ (x49 : Int), v = .int .u16 x49 ∧ Does Try.prog 11 #[.int .u16 c7, .slice b_a27 b_n28 b_c29] w48 (fun v w50 => ∃ (x51 : Int), v = .int .u16 x51 ∧ if x49 = x51 then
        Does Try.prog 15 #[.int .u32 d8, .slice a_a1 a_n2 a_c3] w50 (fun v w53 => ∃ (x54 : Int), v = .int .u32 x54 ∧ Does Try.prog 15 #[.int .u32 x54, .slice b_a4 b_n5 b_c6] w53 (fun v w55 => ∃ (x56 : Int), v = .int .u32 x56 ∧ Does Try.prog 15 #[.int .u32 d8, .slice b_a27 b_n28 b_c29] w55 (fun v w57 => ∃ (x58 : Int), v = .int .u32 x58 ∧ if x56 = x58 then
          Does Try.prog 8 #[] w57 (fun v w60 => ∃ (x61 : Bool), v = .bool x61 ∧ k (.bool x61) w60)
        else
          k (.bool false) w57)))
      else
        k (.bool false) w50)))
    else
      k (.bool false) w43)))
  else
    k (.bool false) w36))))
/-- spacecraft spacecraftlaw01.CrcContinues -/
def F5 (a_a1 : Option Addr) (a_n2 : Nat) (a_c3 : Nat) (b_a4 : Option Addr) (b_n5 : Nat) (b_c6 : Nat) (c7 : Int) (d8 : Int) (w9 : World) (k : Value → World → Prop) : Prop :=
  if 2000 < (a_n2 : Int) then
  F5_j1 a_a1 a_n2 a_c3 b_a4 b_n5 b_c6 c7 d8 true w9 k
else
  F5_j1 a_a1 a_n2 a_c3 b_a4 b_n5 b_c6 c7 d8 (decide (2000 < (b_n5 : Int))) w9 k
set_option maxRecDepth 100000 in
set_option maxHeartbeats 2000000 in
theorem w5 (a_a1 : Option Addr) (a_n2 : Nat) (a_c3 : Nat) (b_a4 : Option Addr) (b_n5 : Nat) (b_c6 : Nat) (c7 : Int) (d8 : Int) (w9 : World) (k : Value → World → Prop) (h : F5 a_a1 a_n2 a_c3 b_a4 b_n5 b_c6 c7 d8 w9 k) : Does Try.prog 5 #[.slice a_a1 a_n2 a_c3, .slice b_a4 b_n5 b_c6, .int .u16 c7, .int .u32 d8] w9 k := by
  refine enter 65 Try.func5 rfl rfl rfl ?_
  intro ρ hρ
  have e0 := hρ 0 _ rfl
  have e1 := hρ 1 _ rfl
  have e2 := hρ 2 _ rfl
  have e3 := hρ 3 _ rfl
  unfold F5 at h
  refine WC_seq ?_
  refine WC_region ?_
  refine WL_val gd0 ((o_assign (v := .bool false) rfl) _) rfl ?_
  refine WL_nil ?_
  refine nrm ?_
  refine WC_seq ?_
  refine WC_cut (fun ρ w' => ∃ (t15 : Bool), ρ 17 = .bool t15 ∧ ρ 0 = .slice a_a1 a_n2 a_c3 ∧ ρ 1 = .slice b_a4 b_n5 b_c6 ∧ ρ 2 = .int .u16 c7 ∧ ρ 3 = .int .u32 d8 ∧ F5_j1 a_a1 a_n2 a_c3 b_a4 b_n5 b_c6 c7 d8 t15 w' k) ?_ ?_
  · refine WC_region ?_
    refine WL_val gd0 ((o_move (v := .slice a_a1 a_n2 a_c3) (by exact e0)) _) rfl ?_
    refine WL_val gd0 ((o_len Try.underlying22 rfl) _) rfl ?_
    refine WL_val gd0 ((o_gtr rfl rfl) _) rfl ?_
    refine WL_val gd0 ((o_move (v := .bool (decide (2000 < (a_n2 : Int)))) rfl) _) rfl ?_
    refine bsplit (decide (2000 < (a_n2 : Int))) (fun hb62 => ?_) (fun hb62 => ?_)
    · rw [if_pos (of_decide_eq_true hb62)] at h
      refine WL_skip (gdN (b := (decide (2000 < (a_n2 : Int)))) 13 rfl rfl hb62) rfl ?_
      refine WL_skip (gdN (b := (decide (2000 < (a_n2 : Int)))) 13 rfl rfl hb62) rfl ?_
      refine WL_skip (gdN (b := (decide (2000 < (a_n2 : Int)))) 13 rfl rfl hb62) rfl ?_
      refine WL_val gd0 ((o_pickT (v := .bool true) rfl hb62 rfl) _) rfl ?_
      refine WL_nil ?_
      refine nrm ?_
      exact ⟨_, rfl, e0, e1, e2, e3, h⟩
    · rw [if_neg (of_decide_eq_false hb62)] at h
      refine WL_val (gdY (b := (decide (2000 < (a_n2 : Int)))) 13 rfl rfl hb62) ((o_move (v := .slice b_a4 b_n5 b_c6) (by exact e1)) _) rfl ?_
      refine WL_val (gdY (b := (decide (2000 < (a_n2 : Int)))) 13 rfl rfl hb62) ((o_len Try.underlying22 rfl) _) rfl ?_
      refine WL_val (gdY (b := (decide (2000 < (a_n2 : Int)))) 13 rfl rfl hb62) ((o_gtr rfl rfl) _) rfl ?_
      refine WL_val gd0 ((o_pickF (v := .bool (decide (2000 < (b_n5 : Int)))) rfl hb62 rfl) _) rfl ?_
      refine WL_nil ?_
      refine nrm ?_
      exact ⟨_, rfl, e0, e1, e2, e3, h⟩
  · rintro ρ w16 ⟨t15, e17_14, e0_10, e1_11, e2_12, e3_13, h⟩
    unfold F5_j1 at h
    refine WC_cond (t := t15) (by exact e17_14) (fun hb17 => ?_) (fun hb17 => ?_)
    · rw [if_pos hb17] at h
      refine WC_seq ?_
      refine WC_region ?_
      refine WL_call gd0 (o_call Try.call8 argNil _) rfl (h.mono ?_)
      rintro _ w18 ⟨t19, rfl, h⟩
      refine WL_val gd0 ((o_assign (v := .bool t19) rfl) _) rfl ?_
      refine WL_nil ?_
      refine nrm ?_
      refine WC_ret ?_
      refine rtT ?_
      refine rtE ?_
      exact gv1 rfl rfl h
    · rw [if_neg (neT hb17)] at h
      refine WC_skip ?_
      refine nrm ?_
      refine WC_seq ?_
      refine WC_region ?_
      have h := New.out h
      refine WL_val gd0 (o_buildSlice (e := 5) (ps := []) (cs := []) partNil (fun w => by kernel_rfl)) rfl ?_
      generalize hp20 : fresh w16 = p20 at h ⊢
      generalize hw21 : push w16 5 [] = w21 at h ⊢
      try dsimp only at h
      refine WL_val gd0 ((o_move (v := .slice a_a1 a_n2 a_c3) (by exact e0_10)) _) rfl ?_
      obtain ⟨b_a22, b_n23, b_c24, w25, r26, h⟩ := h
      refine WL_val gd0 (o_append rfl rfl r26) rfl ?_
      refine WL_val gd0 ((o_move (v := .slice b_a4 b_n5 b_c6) (by exact e1_11)) _) rfl ?_
      obtain ⟨b_a27, b_n28, b_c29, w30, r31, h⟩ := h
      refine WL_val gd0 (o_append rfl rfl r31) rfl ?_
      refine WL_val gd0 ((o_assign (v := .slice b_a27 b_n28 b_c29) rfl) _) rfl ?_
      refine WL_nil ?_
      refine nrm ?_
      refine WC_seq ?_
      refine WC_region ?_
      refine WL_val gd0 ((o_move (v := .slice a_a1 a_n2 a_c3) (by exact e0_10)) _) rfl ?_
      refine WL_call gd0 (o_call Try.call9 (argCons rfl argNil) _) rfl (h.mono ?_)
      rintro _ w32 ⟨x33, rfl, h⟩
      refine WL_val gd0 ((o_move (v := .slice b_a4 b_n5 b_c6) (by exact e1_11)) _) rfl ?_
      refine WL_call gd0 (o_call Try.call11 (argCons rfl (argCons rfl argNil)) _) rfl (h.mono ?_)
      rintro _ w34 ⟨x35, rfl, h⟩
      refine WL_val gd0 ((o_move (v := .slice b_a27 b_n28 b_c29) rfl) _) rfl ?_
      refine WL_call gd0 (o_call Try.call9 (argCons rfl argNil) _) rfl (h.mono ?_)
      rintro _ w36 ⟨x37, rfl, h⟩
      refine WL_val gd0 ((o_eql rfl rfl) _) rfl ?_
      refine WL_val gd0 ((o_move (v := .bool (decide (x35 = x37))) rfl) _) rfl ?_
      refine bsplit (decide (x35 = x37)) (fun hb38 => ?_) (fun hb38 => ?_)
      · rw [if_pos (of_decide_eq_true hb38)] at h
        refine WL_val (gdY (b := (decide (x35 = x37))) 31 rfl rfl hb38) ((o_move (v := .slice a_a1 a_n2 a_c3) (by exact e0_10)) _) rfl ?_
        refine WL_call (gdY (b := (decide (x35 = x37))) 31 rfl rfl hb38) (o_call Try.call13 (argCons rfl argNil) _) rfl (h.mono ?_)
        rintro _ w39 ⟨x40, rfl, h⟩
        refine WL_val (gdY (b := (decide (x35 = x37))) 31 rfl rfl hb38) ((o_move (v := .slice b_a4 b_n5 b_c6) (by exact e1_11)) _) rfl ?_
        refine WL_call (gdY (b := (decide (x35 = x37))) 31 rfl rfl hb38) (o_call Try.call15 (argCons rfl (argCons rfl argNil)) _) rfl (h.mono ?_)
        rintro _ w41 ⟨x42, rfl, h⟩
        refine WL_val (gdY (b := (decide (x35 = x37))) 31 rfl rfl hb38) ((o_move (v := .slice b_a27 b_n28 b_c29) rfl) _) rfl ?_
        refine WL_call (gdY (b := (decide (x35 = x37))) 31 rfl rfl hb38) (o_call Try.call13 (argCons rfl argNil) _) rfl (h.mono ?_)
        rintro _ w43 ⟨x44, rfl, h⟩
        refine WL_val (gdY (b := (decide (x35 = x37))) 31 rfl rfl hb38) ((o_eql rfl rfl) _) rfl ?_
        refine WL_val gd0 ((o_pickT (v := .bool (decide (x42 = x44))) rfl hb38 rfl) _) rfl ?_
        refine WL_val gd0 ((o_move (v := .bool (decide (x42 = x44))) rfl) _) rfl ?_
        refine bsplit (decide (x42 = x44)) (fun hb45 => ?_) (fun hb45 => ?_)
        · rw [if_pos (of_decide_eq_true hb45)] at h
          refine WL_val (gdY (b := (decide (x42 = x44))) 40 rfl rfl hb45) ((o_move (v := .int .u16 c7) (by exact e2_12)) _) rfl ?_
          refine WL_val (gdY (b := (decide (x42 = x44))) 40 rfl rfl hb45) ((o_move (v := .slice a_a1 a_n2 a_c3) (by exact e0_10)) _) rfl ?_
          refine WL_call (gdY (b := (decide (x42 = x44))) 40 rfl rfl hb45) (o_call Try.call11 (argCons rfl (argCons rfl argNil)) _) rfl (h.mono ?_)
          rintro _ w46 ⟨x47, rfl, h⟩
          refine WL_val (gdY (b := (decide (x42 = x44))) 40 rfl rfl hb45) ((o_move (v := .slice b_a4 b_n5 b_c6) (by exact e1_11)) _) rfl ?_
          refine WL_call (gdY (b := (decide (x42 = x44))) 40 rfl rfl hb45) (o_call Try.call11 (argCons rfl (argCons rfl argNil)) _) rfl (h.mono ?_)
          rintro _ w48 ⟨x49, rfl, h⟩
          refine WL_val (gdY (b := (decide (x42 = x44))) 40 rfl rfl hb45) ((o_move (v := .int .u16 c7) (by exact e2_12)) _) rfl ?_
          refine WL_val (gdY (b := (decide (x42 = x44))) 40 rfl rfl hb45) ((o_move (v := .slice b_a27 b_n28 b_c29) rfl) _) rfl ?_
          refine WL_call (gdY (b := (decide (x42 = x44))) 40 rfl rfl hb45) (o_call Try.call11 (argCons rfl (argCons rfl argNil)) _) rfl (h.mono ?_)
          rintro _ w50 ⟨x51, rfl, h⟩
          refine WL_val (gdY (b := (decide (x42 = x44))) 40 rfl rfl hb45) ((o_eql rfl rfl) _) rfl ?_
          refine WL_val gd0 ((o_pickT (v := .bool (decide (x49 = x51))) rfl hb45 rfl) _) rfl ?_
          refine WL_val gd0 ((o_move (v := .bool (decide (x49 = x51))) rfl) _) rfl ?_
          refine bsplit (decide (x49 = x51)) (fun hb52 => ?_) (fun hb52 => ?_)
          · rw [if_pos (of_decide_eq_true hb52)] at h
            refine WL_val (gdY (b := (decide (x49 = x51))) 51 rfl rfl hb52) ((o_move (v := .int .u32 d8) (by exact e3_13)) _) rfl ?_
            refine WL_val (gdY (b := (decide (x49 = x51))) 51 rfl rfl hb52) ((o_move (v := .slice a_a1 a_n2 a_c3) (by exact e0_10)) _) rfl ?_
            refine WL_call (gdY (b := (decide (x49 = x51))) 51 rfl rfl hb52) (o_call Try.call15 (argCons rfl (argCons rfl argNil)) _) rfl (h.mono ?_)
            rintro _ w53 ⟨x54, rfl, h⟩
            refine WL_val (gdY (b := (decide (x49 = x51))) 51 rfl rfl hb52) ((o_move (v := .slice b_a4 b_n5 b_c6) (by exact e1_11)) _) rfl ?_
            refine WL_call (gdY (b := (decide (x49 = x51))) 51 rfl rfl hb52) (o_call Try.call15 (argCons rfl (argCons rfl argNil)) _) rfl (h.mono ?_)
            rintro _ w55 ⟨x56, rfl, h⟩
            refine WL_val (gdY (b := (decide (x49 = x51))) 51 rfl rfl hb52) ((o_move (v := .int .u32 d8) (by exact e3_13)) _) rfl ?_
            refine WL_val (gdY (b := (decide (x49 = x51))) 51 rfl rfl hb52) ((o_move (v := .slice b_a27 b_n28 b_c29) rfl) _) rfl ?_
            refine WL_call (gdY (b := (decide (x49 = x51))) 51 rfl rfl hb52) (o_call Try.call15 (argCons rfl (argCons rfl argNil)) _) rfl (h.mono ?_)
            rintro _ w57 ⟨x58, rfl, h⟩
            refine WL_val (gdY (b := (decide (x49 = x51))) 51 rfl rfl hb52) ((o_eql rfl rfl) _) rfl ?_
            refine WL_val gd0 ((o_pickT (v := .bool (decide (x56 = x58))) rfl hb52 rfl) _) rfl ?_
            refine WL_val gd0 ((o_move (v := .bool (decide (x56 = x58))) rfl) _) rfl ?_
            refine bsplit (decide (x56 = x58)) (fun hb59 => ?_) (fun hb59 => ?_)
            · rw [if_pos (of_decide_eq_true hb59)] at h
              refine WL_call (gdY (b := (decide (x56 = x58))) 62 rfl rfl hb59) (o_call Try.call8 argNil _) rfl (h.mono ?_)
              rintro _ w60 ⟨x61, rfl, h⟩
              refine WL_val gd0 ((o_pickT (v := .bool x61) rfl hb59 rfl) _) rfl ?_
              refine WL_val gd0 ((o_assign (v := .bool x61) rfl) _) rfl ?_
              refine WL_nil ?_
              refine nrm ?_
              refine WC_ret ?_
              refine rtE ?_
              exact gv1 rfl rfl h
            · rw [if_neg (of_decide_eq_false hb59)] at h
              refine WL_skip (gdN (b := (decide (x56 = x58))) 62 rfl rfl hb59) rfl ?_
              refine WL_val gd0 ((o_pickF (v := .bool false) rfl hb59 rfl) _) rfl ?_
              refine WL_val gd0 ((o_assign (v := .bool false) rfl) _) rfl ?_
              refine WL_nil ?_
              refine nrm ?_
              refine WC_ret ?_
              refine rtE ?_
              exact gv1 rfl rfl h
          · rw [if_neg (of_decide_eq_false hb52)] at h
            refine WL_skip (gdN (b := (decide (x49 = x51))) 51 rfl rfl hb52) rfl ?_
            refine WL_skip (gdN (b := (decide (x49 = x51))) 51 rfl rfl hb52) rfl ?_
            refine WL_skip (gdN (b := (decide (x49 = x51))) 51 rfl rfl hb52) rfl ?_
            refine WL_skip (gdN (b := (decide (x49 = x51))) 51 rfl rfl hb52) rfl ?_
            refine WL_skip (gdN (b := (decide (x49 = x51))) 51 rfl rfl hb52) rfl ?_
            refine WL_skip (gdN (b := (decide (x49 = x51))) 51 rfl rfl hb52) rfl ?_
            refine WL_skip (gdN (b := (decide (x49 = x51))) 51 rfl rfl hb52) rfl ?_
            refine WL_skip (gdN (b := (decide (x49 = x51))) 51 rfl rfl hb52) rfl ?_
            refine WL_skip (gdN (b := (decide (x49 = x51))) 51 rfl rfl hb52) rfl ?_
            refine WL_val gd0 ((o_pickF (v := .bool false) rfl hb52 rfl) _) rfl ?_
            refine WL_val gd0 ((o_move (v := .bool false) rfl) _) rfl ?_
            refine WL_skip (gdN (b := false) 62 rfl rfl rfl) rfl ?_
            refine WL_val gd0 ((o_pickF (v := .bool false) rfl rfl rfl) _) rfl ?_
            refine WL_val gd0 ((o_assign (v := .bool false) rfl) _) rfl ?_
            refine WL_nil ?_
            refine nrm ?_
            refine WC_ret ?_
            refine rtE ?_
            exact gv1 rfl rfl h
        · rw [if_neg (of_decide_eq_false hb45)] at h
          refine WL_skip (gdN (b := (decide (x42 = x44))) 40 rfl rfl hb45) rfl ?_
          refine WL_skip (gdN (b := (decide (x42 = x44))) 40 rfl rfl hb45) rfl ?_
          refine WL_skip (gdN (b := (decide (x42 = x44))) 40 rfl rfl hb45) rfl ?_
          refine WL_skip (gdN (b := (decide (x42 = x44))) 40 rfl rfl hb45) rfl ?_
          refine WL_skip (gdN (b := (decide (x42 = x44))) 40 rfl rfl hb45) rfl ?_
          refine WL_skip (gdN (b := (decide (x42 = x44))) 40 rfl rfl hb45) rfl ?_
          refine WL_skip (gdN (b := (decide (x42 = x44))) 40 rfl rfl hb45) rfl ?_
          refine WL_skip (gdN (b := (decide (x42 = x44))) 40 rfl rfl hb45) rfl ?_
          refine WL_skip (gdN (b := (decide (x42 = x44))) 40 rfl rfl hb45) rfl ?_
          refine WL_val gd0 ((o_pickF (v := .bool false) rfl hb45 rfl) _) rfl ?_
          refine WL_val gd0 ((o_move (v := .bool false) rfl) _) rfl ?_
          refine WL_skip (gdN (b := false) 51 rfl rfl rfl) rfl ?_
          refine WL_skip (gdN (b := false) 51 rfl rfl rfl) rfl ?_
          refine WL_skip (gdN (b := false) 51 rfl rfl rfl) rfl ?_
          refine WL_skip (gdN (b := false) 51 rfl rfl rfl) rfl ?_
          refine WL_skip (gdN (b := false) 51 rfl rfl rfl) rfl ?_
          refine WL_skip (gdN (b := false) 51 rfl rfl rfl) rfl ?_
          refine WL_skip (gdN (b := false) 51 rfl rfl rfl) rfl ?_
          refine WL_skip (gdN (b := false) 51 rfl rfl rfl) rfl ?_
          refine WL_skip (gdN (b := false) 51 rfl rfl rfl) rfl ?_
          refine WL_val gd0 ((o_pickF (v := .bool false) rfl rfl rfl) _) rfl ?_
          refine WL_val gd0 ((o_move (v := .bool false) rfl) _) rfl ?_
          refine WL_skip (gdN (b := false) 62 rfl rfl rfl) rfl ?_
          refine WL_val gd0 ((o_pickF (v := .bool false) rfl rfl rfl) _) rfl ?_
          refine WL_val gd0 ((o_assign (v := .bool false) rfl) _) rfl ?_
          refine WL_nil ?_
          refine nrm ?_
          refine WC_ret ?_
          refine rtE ?_
          exact gv1 rfl rfl h
      · rw [if_neg (of_decide_eq_false hb38)] at h
        refine WL_skip (gdN (b := (decide (x35 = x37))) 31 rfl rfl hb38) rfl ?_
        refine WL_skip (gdN (b := (decide (x35 = x37))) 31 rfl rfl hb38) rfl ?_
        refine WL_skip (gdN (b := (decide (x35 = x37))) 31 rfl rfl hb38) rfl ?_
        refine WL_skip (gdN (b := (decide (x35 = x37))) 31 rfl rfl hb38) rfl ?_
        refine WL_skip (gdN (b := (decide (x35 = x37))) 31 rfl rfl hb38) rfl ?_
        refine WL_skip (gdN (b := (decide (x35 = x37))) 31 rfl rfl hb38) rfl ?_
        refine WL_skip (gdN (b := (decide (x35 = x37))) 31 rfl rfl hb38) rfl ?_
        refine WL_val gd0 ((o_pickF (v := .bool false) rfl hb38 rfl) _) rfl ?_
        refine WL_val gd0 ((o_move (v := .bool false) rfl) _) rfl ?_
        refine WL_skip (gdN (b := false) 40 rfl rfl rfl) rfl ?_
        refine WL_skip (gdN (b := false) 40 rfl rfl rfl) rfl ?_
        refine WL_skip (gdN (b := false) 40 rfl rfl rfl) rfl ?_
        refine WL_skip (gdN (b := false) 40 rfl rfl rfl) rfl ?_
        refine WL_skip (gdN (b := false) 40 rfl rfl rfl) rfl ?_
        refine WL_skip (gdN (b := false) 40 rfl rfl rfl) rfl ?_
        refine WL_skip (gdN (b := false) 40 rfl rfl rfl) rfl ?_
        refine WL_skip (gdN (b := false) 40 rfl rfl rfl) rfl ?_
        refine WL_skip (gdN (b := false) 40 rfl rfl rfl) rfl ?_
        refine WL_val gd0 ((o_pickF (v := .bool false) rfl rfl rfl) _) rfl ?_
        refine WL_val gd0 ((o_move (v := .bool false) rfl) _) rfl ?_
        refine WL_skip (gdN (b := false) 51 rfl rfl rfl) rfl ?_
        refine WL_skip (gdN (b := false) 51 rfl rfl rfl) rfl ?_
        refine WL_skip (gdN (b := false) 51 rfl rfl rfl) rfl ?_
        refine WL_skip (gdN (b := false) 51 rfl rfl rfl) rfl ?_
        refine WL_skip (gdN (b := false) 51 rfl rfl rfl) rfl ?_
        refine WL_skip (gdN (b := false) 51 rfl rfl rfl) rfl ?_
        refine WL_skip (gdN (b := false) 51 rfl rfl rfl) rfl ?_
        refine WL_skip (gdN (b := false) 51 rfl rfl rfl) rfl ?_
        refine WL_skip (gdN (b := false) 51 rfl rfl rfl) rfl ?_
        refine WL_val gd0 ((o_pickF (v := .bool false) rfl rfl rfl) _) rfl ?_
        refine WL_val gd0 ((o_move (v := .bool false) rfl) _) rfl ?_
        refine WL_skip (gdN (b := false) 62 rfl rfl rfl) rfl ?_
        refine WL_val gd0 ((o_pickF (v := .bool false) rfl rfl rfl) _) rfl ?_
        refine WL_val gd0 ((o_assign (v := .bool false) rfl) _) rfl ?_
        refine WL_nil ?_
        refine nrm ?_
        refine WC_ret ?_
        refine rtE ?_
        exact gv1 rfl rfl h

/-- spacecraft spacecraftlaw01.CrcAppends -/
def F6 (b_a1 : Option Addr) (b_n2 : Nat) (b_c3 : Nat) (at4 : Int) (pattern5 : Int) (w6 : World) (k : Value → World → Prop) : Prop :=
  if 2000 < (b_n2 : Int) then
  Does Try.prog 8 #[] w6 (fun v w8 => ∃ (t9 : Bool), v = .bool t9 ∧ k (.bool t9) w8)
else
  Does Try.prog 17 #[.slice b_a1 b_n2 b_c3] w6 (fun v w10 => ∃ (s_a11 : Option Addr) (s_n12 s_c13 : Nat), v = .slice s_a11 s_n12 s_c13 ∧ if (s_n12 : Int) ≠ (IntKind.i64.wrap ((b_n2 : Int) + 2)) then
    k (.bool false) w10.drew
  else
    (0 : Int) ≤ (b_n2 : Int) ∧ (b_n2 : Int) ≤ (s_c13 : Int) ∧ ∃ (s17 : ByteArray), (Conv.bytesToString (.slice s_a11 ((b_n2 : Int).toNat) s_c13)).run Try.prog w10.drew = .ok (.string s17) w10.drew ∧ ∃ (s19 : ByteArray), (Conv.bytesToString (.slice b_a1 b_n2 b_c3)).run Try.prog w10.drew = .ok (.string s19) w10.drew ∧ if (!(s17.toList == s19.toList)) = true then
      k (.bool false) w10.drew
    else
      Does Try.prog 19 #[.slice s_a11 s_n12 s_c13] w10.drew (fun v w22 => ∃ (x23 : Bool), v = .bool x23 ∧ if (!x23) = true then
        k (.bool false) w22
      else
        IntKind.i64.wrap (8 * (s_n12 : Int)) ≠ 0 ∧ Does Try.prog 21 #[.slice s_a11 s_n12 s_c13, .int .i64 (Int.tmod (IntKind.i64.wrap at4) (IntKind.i64.wrap (8 * (s_n12 : Int)))), .int .u16 pattern5] w22 (fun v w26 => ∃ (x_a27 : Option Addr) (x_n28 x_c29 : Nat), v = .slice x_a27 x_n28 x_c29 ∧ ∃ (s30 : ByteArray), (Conv.bytesToString (.slice x_a27 x_n28 x_c29)).run Try.prog w26 = .ok (.string s30) w26 ∧ ∃ (s32 : ByteArray), (Conv.bytesToString (.slice s_a11 s_n12 s_c13)).run Try.prog w26 = .ok (.string s32) w26 ∧ if (s30.toList == s32.toList) = true then
          Does Try.prog 8 #[] w26 (fun v w35 => ∃ (x36 : Bool), v = .bool x36 ∧ k (.bool x36) w35)
        else
          Does Try.prog 19 #[.slice x_a27 x_n28 x_c29] w26 (fun v w37 => ∃ (x38 : Bool), v = .bool x38 ∧ if (!x38) = true then
            Does Try.prog 8 #[] w37 (fun v w40 => ∃ (x41 : Bool), v = .bool x41 ∧ k (.bool x41) w40)
          else
            k (.bool false) w37))))
set_option maxRecDepth 100000 in
set_option maxHeartbeats 2000000 in
theorem w6 (b_a1 : Option Addr) (b_n2 : Nat) (b_c3 : Nat) (at4 : Int) (pattern5 : Int) (w6 : World) (k : Value → World → Prop) (h : F6 b_a1 b_n2 b_c3 at4 pattern5 w6 k) : Does Try.prog 6 #[.slice b_a1 b_n2 b_c3, .int .u16 at4, .int .u16 pattern5] w6 k := by
  refine enter 58 Try.func6 rfl rfl rfl ?_
  intro ρ hρ
  have e0 := hρ 0 _ rfl
  have e1 := hρ 1 _ rfl
  have e2 := hρ 2 _ rfl
  unfold F6 at h
  refine WC_seq ?_
  refine WC_region ?_
  refine WL_val gd0 ((o_assign (v := .bool false) rfl) _) rfl ?_
  refine WL_nil ?_
  refine nrm ?_
  refine WC_seq ?_
  refine WC_seq ?_
  refine WC_region ?_
  refine WL_val gd0 ((o_move (v := .slice b_a1 b_n2 b_c3) (by exact e0)) _) rfl ?_
  refine WL_val gd0 ((o_len Try.underlying22 rfl) _) rfl ?_
  refine WL_val gd0 ((o_gtr rfl rfl) _) rfl ?_
  refine WL_nil ?_
  refine nrm ?_
  refine WC_cond (t := (decide (2000 < (b_n2 : Int)))) rfl (fun hb7 => ?_) (fun hb7 => ?_)
  · rw [if_pos (of_decide_eq_true hb7)] at h
    refine WC_seq ?_
    refine WC_region ?_
    refine WL_call gd0 (o_call Try.call8 argNil _) rfl (h.mono ?_)
    rintro _ w8 ⟨t9, rfl, h⟩
    refine WL_val gd0 ((o_assign (v := .bool t9) rfl) _) rfl ?_
    refine WL_nil ?_
    refine nrm ?_
    refine WC_ret ?_
    refine rtT ?_
    refine rtE ?_
    exact gv1 rfl rfl h
  · rw [if_neg (of_decide_eq_false hb7)] at h
    refine WC_skip ?_
    refine nrm ?_
    refine WC_seq ?_
    refine WC_region ?_
    refine WL_val gd0 ((o_move (v := .slice b_a1 b_n2 b_c3) (by exact e0)) _) rfl ?_
    refine WL_call gd0 (o_call Try.call17 (argCons rfl argNil) _) rfl (h.mono ?_)
    rintro _ w10 ⟨s_a11, s_n12, s_c13, rfl, h⟩
    refine WL_val gd0 ((o_assign (v := .slice s_a11 s_n12 s_c13) rfl) _) rfl ?_
    refine WL_nil ?_
    refine nrm ?_
    refine WC_seq ?_
    refine WC_seq ?_
    refine WC_draws [(0, true), (1, true), (2, true), (3, true), (4, true), (5, true), (6, true), (7, true), (8, true), (9, true), (10, true), (11, true), (12, true), (13, true), (14, true), (15, true), (16, true), (17, true), (18, false), (19, true), (20, true)] Try.mixed (by kernel_rfl) ?_
    refine WQ_val rfl gd0 (o_move (v := .slice s_a11 s_n12 s_c13) rfl) rfl ?_
    refine WQ_val rfl gd0 (o_len Try.underlying22 rfl) rfl ?_
    refine WQ_val rfl gd0 (o_move (v := .slice b_a1 b_n2 b_c3) (by exact e0)) rfl ?_
    refine WQ_val rfl gd0 (o_len Try.underlying22 rfl) rfl ?_
    refine WQ_val rfl gd0 (o_add rfl rfl) rfl ?_
    refine WQ_val rfl gd0 (o_neq rfl rfl) rfl ?_
    refine WQ_val rfl gd0 (o_move (v := .bool (decide ((s_n12 : Int) ≠ (IntKind.i64.wrap ((b_n2 : Int) + 2))))) rfl) rfl ?_
    refine bsplit (decide ((s_n12 : Int) ≠ (IntKind.i64.wrap ((b_n2 : Int) + 2)))) (fun hb14 => ?_) (fun hb14 => ?_)
    · rw [if_pos (of_decide_eq_true hb14)] at h
      refine WQ_skip rfl (gdN (b := (decide ((s_n12 : Int) ≠ (IntKind.i64.wrap ((b_n2 : Int) + 2))))) 21 rfl rfl hb14) rfl ?_
      refine WQ_skip rfl (gdN (b := (decide ((s_n12 : Int) ≠ (IntKind.i64.wrap ((b_n2 : Int) + 2))))) 21 rfl rfl hb14) rfl ?_
      refine WQ_skip rfl (gdN (b := (decide ((s_n12 : Int) ≠ (IntKind.i64.wrap ((b_n2 : Int) + 2))))) 21 rfl rfl hb14) rfl ?_
      refine WQ_skip rfl (gdN (b := (decide ((s_n12 : Int) ≠ (IntKind.i64.wrap ((b_n2 : Int) + 2))))) 21 rfl rfl hb14) rfl ?_
      refine WQ_skip rfl (gdN (b := (decide ((s_n12 : Int) ≠ (IntKind.i64.wrap ((b_n2 : Int) + 2))))) 21 rfl rfl hb14) rfl ?_
      refine WQ_skip rfl (gdN (b := (decide ((s_n12 : Int) ≠ (IntKind.i64.wrap ((b_n2 : Int) + 2))))) 21 rfl rfl hb14) rfl ?_
      refine WQ_skip rfl (gdN (b := (decide ((s_n12 : Int) ≠ (IntKind.i64.wrap ((b_n2 : Int) + 2))))) 21 rfl rfl hb14) rfl ?_
      refine WQ_skip rfl (gdN (b := (decide ((s_n12 : Int) ≠ (IntKind.i64.wrap ((b_n2 : Int) + 2))))) 21 rfl rfl hb14) rfl ?_
      refine WQ_val rfl gd0 (o_pickT (v := .bool true) rfl hb14 rfl) rfl ?_
      refine WQ_val rfl gd0 (o_move (v := .bool true) rfl) rfl ?_
      refine WQ_skip rfl (gdN (b := true) 31 rfl rfl rfl) rfl ?_
      refine WQ_passAct rfl (gdN (b := true) 31 rfl rfl rfl) rfl (by exact trivial) ?_
      refine WQ_skip rfl (gdN (b := true) 31 rfl rfl rfl) rfl ?_
      refine WQ_val rfl gd0 (o_pickT (v := .bool true) rfl rfl rfl) rfl ?_
      refine WQ_nil ?_
      refine nrm ?_
      refine WC_cond (t := true) rfl (fun _ => ?_) (fun hx => by rw [(rfl : true = true)] at hx; cases hx)
      refine WC_seq ?_
      refine WC_region ?_
      refine WL_val gd0 ((o_assign (v := .bool false) rfl) _) rfl ?_
      refine WL_nil ?_
      refine nrm ?_
      refine WC_ret ?_
      refine rtT ?_
      refine rtE ?_
      exact gv1 rfl rfl h
    · rw [if_neg (of_decide_eq_false hb14)] at h
      refine WQ_val rfl (gdY (b := (decide ((s_n12 : Int) ≠ (IntKind.i64.wrap ((b_n2 : Int) + 2))))) 21 rfl rfl hb14) (o_move (v := .slice s_a11 s_n12 s_c13) rfl) rfl ?_
      refine WQ_val rfl (gdY (b := (decide ((s_n12 : Int) ≠ (IntKind.i64.wrap ((b_n2 : Int) + 2))))) 21 rfl rfl hb14) (o_move (v := .slice b_a1 b_n2 b_c3) (by exact e0)) rfl ?_
      refine WQ_val rfl (gdY (b := (decide ((s_n12 : Int) ≠ (IntKind.i64.wrap ((b_n2 : Int) + 2))))) 21 rfl rfl hb14) (o_len Try.underlying22 rfl) rfl ?_
      obtain ⟨c15, c16, h⟩ := h
      refine WQ_val rfl (gdY (b := (decide ((s_n12 : Int) ≠ (IntKind.i64.wrap ((b_n2 : Int) + 2))))) 21 rfl rfl hb14) (o_sliceH Try.underlying22 Try.sizeOf5 rfl rfl c15 c16) rfl ?_
      obtain ⟨s17, r18, h⟩ := h
      refine WQ_look (fun w => (Conv.bytesToString (.slice s_a11 ((b_n2 : Int).toNat) s_c13)).run Try.prog w = .ok (.string s17) w) rfl (gdY (b := (decide ((s_n12 : Int) ≠ (IntKind.i64.wrap ((b_n2 : Int) + 2))))) 21 rfl rfl hb14) (fun w hc => (o_toStr Try.underlying22 Try.underlying5 Try.underlying9 rfl hc)) r18 rfl ?_
      refine WQ_val rfl (gdY (b := (decide ((s_n12 : Int) ≠ (IntKind.i64.wrap ((b_n2 : Int) + 2))))) 21 rfl rfl hb14) (o_move (v := .slice b_a1 b_n2 b_c3) (by exact e0)) rfl ?_
      obtain ⟨s19, r20, h⟩ := h
      refine WQ_look (fun w => (Conv.bytesToString (.slice b_a1 b_n2 b_c3)).run Try.prog w = .ok (.string s19) w) rfl (gdY (b := (decide ((s_n12 : Int) ≠ (IntKind.i64.wrap ((b_n2 : Int) + 2))))) 21 rfl rfl hb14) (fun w hc => (o_toStr Try.underlying22 Try.underlying5 Try.underlying9 rfl hc)) r20 rfl ?_
      refine WQ_val rfl (gdY (b := (decide ((s_n12 : Int) ≠ (IntKind.i64.wrap ((b_n2 : Int) + 2))))) 21 rfl rfl hb14) (o_neqStr rfl rfl) rfl ?_
      refine WQ_val rfl gd0 (o_pickF (v := .bool (!(s17.toList == s19.toList))) rfl hb14 rfl) rfl ?_
      refine WQ_val rfl gd0 (o_move (v := .bool (!(s17.toList == s19.toList))) rfl) rfl ?_
      refine bsplit (!(s17.toList == s19.toList)) (fun hb21 => ?_) (fun hb21 => ?_)
      · rw [if_pos hb21] at h
        refine WQ_skip rfl (gdN (b := (!(s17.toList == s19.toList))) 31 rfl rfl hb21) rfl ?_
        refine WQ_passAct rfl (gdN (b := (!(s17.toList == s19.toList))) 31 rfl rfl hb21) rfl (by exact ⟨⟨trivial, depT (by kernel_rfl)⟩, depT (by kernel_rfl)⟩) ?_
        refine WQ_skip rfl (gdN (b := (!(s17.toList == s19.toList))) 31 rfl rfl hb21) rfl ?_
        refine WQ_val rfl gd0 (o_pickT (v := .bool true) rfl hb21 rfl) rfl ?_
        refine WQ_nil ?_
        refine nrm ?_
        refine WC_cond (t := true) rfl (fun _ => ?_) (fun hx => by rw [(rfl : true = true)] at hx; cases hx)
        refine WC_seq ?_
        refine WC_region ?_
        refine WL_val gd0 ((o_assign (v := .bool false) rfl) _) rfl ?_
        refine WL_nil ?_
        refine nrm ?_
        refine WC_ret ?_
        refine rtT ?_
        refine rtE ?_
        exact gv1 rfl rfl h
      · rw [if_neg (neT hb21)] at h
        refine WQ_val rfl (gdY (b := (!(s17.toList == s19.toList))) 31 rfl rfl hb21) (o_move (v := .slice s_a11 s_n12 s_c13) rfl) rfl ?_
        refine WQ_call rfl (gdY (b := (!(s17.toList == s19.toList))) 31 rfl rfl hb21) (o_call Try.call19 (argCons rfl argNil) _) rfl (h.mono ?_)
        rintro _ w22 ⟨x23, rfl, h⟩
        refine ⟨⟨⟨trivial, depT (by kernel_rfl)⟩, depT (by kernel_rfl)⟩, ?_⟩
        refine WQ_val rfl (gdY (b := (!(s17.toList == s19.toList))) 31 rfl rfl hb21) (o_not rfl) rfl ?_
        refine WQ_val rfl gd0 (o_pickF (v := .bool (!x23)) rfl hb21 rfl) rfl ?_
        refine WQ_nil ?_
        refine nrm ?_
        refine WC_cond (t := (!x23)) rfl (fun hb24 => ?_) (fun hb24 => ?_)
        · rw [if_pos hb24] at h
          refine WC_seq ?_
          refine WC_region ?_
          refine WL_val gd0 ((o_assign (v := .bool false) rfl) _) rfl ?_
          refine WL_nil ?_
          refine nrm ?_
          refine WC_ret ?_
          refine rtT ?_
          refine rtE ?_
          exact gv1 rfl rfl h
        · rw [if_neg (neT hb24)] at h
          refine WC_skip ?_
          refine nrm ?_
          refine WC_seq ?_
          refine WC_region ?_
          refine WL_val gd0 ((o_move (v := .slice s_a11 s_n12 s_c13) rfl) _) rfl ?_
          refine WL_val gd0 ((o_move (v := .int .u16 at4) (by exact e1)) _) rfl ?_
          refine WL_val gd0 ((o_conv Try.underlying23 Try.underlying3 rfl) _) rfl ?_
          refine WL_val gd0 ((o_move (v := .slice s_a11 s_n12 s_c13) rfl) _) rfl ?_
          refine WL_val gd0 ((o_len Try.underlying22 rfl) _) rfl ?_
          refine WL_val gd0 ((o_mul rfl rfl) _) rfl ?_
          obtain ⟨c25, h⟩ := h
          refine WL_val gd0 ((fun w => o_rem rfl rfl w c25) _) rfl ?_
          refine WL_val gd0 ((o_move (v := .int .u16 pattern5) (by exact e2)) _) rfl ?_
          refine WL_call gd0 (o_call Try.call21 (argCons rfl (argCons rfl (argCons rfl argNil))) _) rfl (h.mono ?_)
          rintro _ w26 ⟨x_a27, x_n28, x_c29, rfl, h⟩
          refine WL_val gd0 ((o_assign (v := .slice x_a27 x_n28 x_c29) rfl) _) rfl ?_
          refine WL_nil ?_
          refine nrm ?_
          refine WC_seq ?_
          refine WC_region ?_
          refine WL_val gd0 ((o_move (v := .slice x_a27 x_n28 x_c29) rfl) _) rfl ?_
          obtain ⟨s30, r31, h⟩ := h
          refine WL_val gd0 (o_toStr Try.underlying22 Try.underlying5 Try.underlying9 rfl r31) rfl ?_
          refine WL_val gd0 ((o_move (v := .slice s_a11 s_n12 s_c13) rfl) _) rfl ?_
          obtain ⟨s32, r33, h⟩ := h
          refine WL_val gd0 (o_toStr Try.underlying22 Try.underlying5 Try.underlying9 rfl r33) rfl ?_
          refine WL_val gd0 ((o_eqlStr rfl rfl) _) rfl ?_
          refine WL_val gd0 ((o_move (v := .bool (s30.toList == s32.toList)) rfl) _) rfl ?_
          refine bsplit (s30.toList == s32.toList) (fun hb34 => ?_) (fun hb34 => ?_)
          · rw [if_pos hb34] at h
            refine WL_skip (gdN (b := (s30.toList == s32.toList)) 50 rfl rfl hb34) rfl ?_
            refine WL_skip (gdN (b := (s30.toList == s32.toList)) 50 rfl rfl hb34) rfl ?_
            refine WL_skip (gdN (b := (s30.toList == s32.toList)) 50 rfl rfl hb34) rfl ?_
            refine WL_val gd0 ((o_pickT (v := .bool true) rfl hb34 rfl) _) rfl ?_
            refine WL_val gd0 ((o_move (v := .bool true) rfl) _) rfl ?_
            refine WL_call (gdY (b := true) 55 rfl rfl rfl) (o_call Try.call8 argNil _) rfl (h.mono ?_)
            rintro _ w35 ⟨x36, rfl, h⟩
            refine WL_val gd0 ((o_pickT (v := .bool x36) rfl rfl rfl) _) rfl ?_
            refine WL_val gd0 ((o_assign (v := .bool x36) rfl) _) rfl ?_
            refine WL_nil ?_
            refine nrm ?_
            refine WC_ret ?_
            refine rtE ?_
            exact gv1 rfl rfl h
          · rw [if_neg (neT hb34)] at h
            refine WL_val (gdY (b := (s30.toList == s32.toList)) 50 rfl rfl hb34) ((o_move (v := .slice x_a27 x_n28 x_c29) rfl) _) rfl ?_
            refine WL_call (gdY (b := (s30.toList == s32.toList)) 50 rfl rfl hb34) (o_call Try.call19 (argCons rfl argNil) _) rfl (h.mono ?_)
            rintro _ w37 ⟨x38, rfl, h⟩
            refine WL_val (gdY (b := (s30.toList == s32.toList)) 50 rfl rfl hb34) ((o_not rfl) _) rfl ?_
            refine WL_val gd0 ((o_pickF (v := .bool (!x38)) rfl hb34 rfl) _) rfl ?_
            refine WL_val gd0 ((o_move (v := .bool (!x38)) rfl) _) rfl ?_
            refine bsplit (!x38) (fun hb39 => ?_) (fun hb39 => ?_)
            · rw [if_pos hb39] at h
              refine WL_call (gdY (b := (!x38)) 55 rfl rfl hb39) (o_call Try.call8 argNil _) rfl (h.mono ?_)
              rintro _ w40 ⟨x41, rfl, h⟩
              refine WL_val gd0 ((o_pickT (v := .bool x41) rfl hb39 rfl) _) rfl ?_
              refine WL_val gd0 ((o_assign (v := .bool x41) rfl) _) rfl ?_
              refine WL_nil ?_
              refine nrm ?_
              refine WC_ret ?_
              refine rtE ?_
              exact gv1 rfl rfl h
            · rw [if_neg (neT hb39)] at h
              refine WL_skip (gdN (b := (!x38)) 55 rfl rfl hb39) rfl ?_
              refine WL_val gd0 ((o_pickF (v := .bool false) rfl hb39 rfl) _) rfl ?_
              refine WL_val gd0 ((o_assign (v := .bool false) rfl) _) rfl ?_
              refine WL_nil ?_
              refine nrm ?_
              refine WC_ret ?_
              refine rtE ?_
              exact gv1 rfl rfl h

def F7_b1 (a_n2 : Nat) (b_n5 : Nat) (c_n8 : Nat) (a_a1 : Option Addr) (b_a4 : Option Addr) (c_a7 : Option Addr) (a_c3 : Nat) (b_c6 : Nat) (c_c9 : Nat) (x_a19 : Option Addr) (x_n20 : Nat) (x_c21 : Nat) (i23 : Int) (w24 : World) (nx24 : Option Addr → Nat → Nat → Int → World → Prop) (k : Value → World → Prop) : Prop :=
  if i23 < (min (min (a_n2 : Int) (b_n5 : Int)) (c_n8 : Int)) then
  ∃ (p29 : Addr), a_a1 = some p29 ∧ (0 : Int) ≤ i23 ∧ i23 < (a_n2 : Int) ∧ ∃ (x31 : Int), w24.drew.cell? (p29.add i23.toNat) = some (.int .u8 x31) ∧ ∃ (p35 : Addr), b_a4 = some p35 ∧ (0 : Int) ≤ i23 ∧ i23 < (b_n5 : Int) ∧ ∃ (x37 : Int), w24.drew.cell? (p35.add i23.toNat) = some (.int .u8 x37) ∧ ∃ (p41 : Addr), c_a7 = some p41 ∧ (0 : Int) ≤ i23 ∧ i23 < (c_n8 : Int) ∧ ∃ (x43 : Int), w24.drew.cell? (p41.add i23.toNat) = some (.int .u8 x43) ∧ New w24.drew 5 [.int .u8 (bxor .u8 (bxor .u8 x31 x37) x43)] (fun p45 w46 => ∃ (b_a47 : Option Addr) (b_n48 b_c49 : Nat) (w50 : World), (Builtin.append_ #[22, 22] 22 #[.slice x_a19 x_n20 x_c21, .slice (some p45) 1 1]).run Try.prog w46 = .ok (.slice b_a47 b_n48 b_c49) w50 ∧ nx24 b_a47 b_n48 b_c49 (IntKind.i64.wrap (i23 + 1)) w50)
else
  (0 : Int) ≤ min (min (a_n2 : Int) (b_n5 : Int)) (c_n8 : Int) ∧ min (min (a_n2 : Int) (b_n5 : Int)) (c_n8 : Int) ≤ (a_c3 : Int) ∧ (0 : Int) ≤ min (min (a_n2 : Int) (b_n5 : Int)) (c_n8 : Int) ∧ min (min (a_n2 : Int) (b_n5 : Int)) (c_n8 : Int) ≤ (b_c6 : Int) ∧ (0 : Int) ≤ min (min (a_n2 : Int) (b_n5 : Int)) (c_n8 : Int) ∧ min (min (a_n2 : Int) (b_n5 : Int)) (c_n8 : Int) ≤ (c_c9 : Int) ∧ Does Try.prog 9 #[.slice x_a19 x_n20 x_c21] w24.drew (fun v w58 => ∃ (x59 : Int), v = .int .u16 x59 ∧ Does Try.prog 9 #[.slice a_a1 ((min (min (a_n2 : Int) (b_n5 : Int)) (c_n8 : Int)).toNat) a_c3] w58 (fun v w60 => ∃ (x61 : Int), v = .int .u16 x61 ∧ Does Try.prog 9 #[.slice b_a4 ((min (min (a_n2 : Int) (b_n5 : Int)) (c_n8 : Int)).toNat) b_c6] w60 (fun v w62 => ∃ (x63 : Int), v = .int .u16 x63 ∧ Does Try.prog 9 #[.slice c_a7 ((min (min (a_n2 : Int) (b_n5 : Int)) (c_n8 : Int)).toNat) c_c9] w62 (fun v w64 => ∃ (x65 : Int), v = .int .u16 x65 ∧ if x59 = (bxor .u16 (bxor .u16 x61 x63) x65) then
    (0 : Int) ≤ min (min (a_n2 : Int) (b_n5 : Int)) (c_n8 : Int) ∧ min (min (a_n2 : Int) (b_n5 : Int)) (c_n8 : Int) ≤ (a_c3 : Int) ∧ (0 : Int) ≤ min (min (a_n2 : Int) (b_n5 : Int)) (c_n8 : Int) ∧ min (min (a_n2 : Int) (b_n5 : Int)) (c_n8 : Int) ≤ (b_c6 : Int) ∧ (0 : Int) ≤ min (min (a_n2 : Int) (b_n5 : Int)) (c_n8 : Int) ∧ min (min (a_n2 : Int) (b_n5 : Int)) (c_n8 : Int) ≤ (c_c9 : Int) ∧ Does Try.prog 13 #[.slice x_a19 x_n20 x_c21] w64 (fun v w73 => ∃ (x74 : Int), v = .int .u32 x74 ∧ Does Try.prog 13 #[.slice a_a1 ((min (min (a_n2 : Int) (b_n5 : Int)) (c_n8 : Int)).toNat) a_c3] w73 (fun v w75 => ∃ (x76 : Int), v = .int .u32 x76 ∧ Does Try.prog 13 #[.slice b_a4 ((min (min (a_n2 : Int) (b_n5 : Int)) (c_n8 : Int)).toNat) b_c6] w75 (fun v w77 => ∃ (x78 : Int), v = .int .u32 x78 ∧ Does Try.prog 13 #[.slice c_a7 ((min (min (a_n2 : Int) (b_n5 : Int)) (c_n8 : Int)).toNat) c_c9] w77 (fun v w79 => ∃ (x80 : Int), v = .int .u32 x80 ∧ if x74 = (bxor .u32 (bxor .u32 x76 x78) x80) then
      Does Try.prog 8 #[] w79 (fun v w82 => ∃ (x83 : Bool), v = .bool x83 ∧ k (.bool x83) w82)
    else
      k (.bool false) w79))))
  else
    k (.bool false) w64))))
/-- spacecraft spacecraftlaw01.CrcLinear -/
def F7 (a_a1 : Option Addr) (a_n2 : Nat) (a_c3 : Nat) (b_a4 : Option Addr) (b_n5 : Nat) (b_c6 : Nat) (c_a7 : Option Addr) (c_n8 : Nat) (c_c9 : Nat) (w10 : World) (k : Value → World → Prop) : Prop :=
  if 2000 < (min (min (a_n2 : Int) (b_n5 : Int)) (c_n8 : Int)) then
  Does Try.prog 8 #[] w10 (fun v w12 => ∃ (t13 : Bool), v = .bool t13 ∧ k (.bool t13) w12)
else
  LoopP (fun (s : Option Addr × Nat × Nat × Int) w' nx' => F7_b1 a_n2 b_n5 c_n8 a_a1 b_a4 c_a7 a_c3 b_c6 c_c9 (s.1) (s.2.1) (s.2.2.1) (s.2.2.2) w' (fun x0 x1 x2 x3 w => nx' (x0, x1, x2, x3) w) k) (none, 0, 0, 0) w10
set_option maxRecDepth 100000 in
set_option maxHeartbeats 2000000 in
theorem w7 (a_a1 : Option Addr) (a_n2 : Nat) (a_c3 : Nat) (b_a4 : Option Addr) (b_n5 : Nat) (b_c6 : Nat) (c_a7 : Option Addr) (c_n8 : Nat) (c_c9 : Nat) (w10 : World) (k : Value → World → Prop) (h : F7 a_a1 a_n2 a_c3 b_a4 b_n5 b_c6 c_a7 c_n8 c_c9 w10 k) : Does Try.prog 7 #[.slice a_a1 a_n2 a_c3, .slice b_a4 b_n5 b_c6, .slice c_a7 c_n8 c_c9] w10 k := by
  refine enter 81 Try.func7 rfl rfl rfl ?_
  intro ρ hρ
  have e0 := hρ 0 _ rfl
  have e1 := hρ 1 _ rfl
  have e2 := hρ 2 _ rfl
  unfold F7 at h
  refine WC_seq ?_
  refine WC_region ?_
  refine WL_val gd0 ((o_assign (v := .bool false) rfl) _) rfl ?_
  refine WL_nil ?_
  refine nrm ?_
  refine WC_seq ?_
  refine WC_region ?_
  refine WL_val gd0 ((o_move (v := .slice a_a1 a_n2 a_c3) (by exact e0)) _) rfl ?_
  refine WL_val gd0 ((o_len Try.underlying22 rfl) _) rfl ?_
  refine WL_val gd0 ((o_move (v := .slice b_a4 b_n5 b_c6) (by exact e1)) _) rfl ?_
  refine WL_val gd0 ((o_len Try.underlying22 rfl) _) rfl ?_
  refine WL_val gd0 ((o_move (v := .slice c_a7 c_n8 c_c9) (by exact e2)) _) rfl ?_
  refine WL_val gd0 ((o_len Try.underlying22 rfl) _) rfl ?_
  refine WL_val gd0 ((o_min3 rfl rfl rfl) _) rfl ?_
  refine WL_val gd0 ((o_assign (v := .int .i64 (min (min (a_n2 : Int) (b_n5 : Int)) (c_n8 : Int))) rfl) _) rfl ?_
  refine WL_nil ?_
  refine nrm ?_
  refine WC_seq ?_
  refine WC_seq ?_
  refine WC_region ?_
  refine WL_val gd0 ((o_move (v := .int .i64 (min (min (a_n2 : Int) (b_n5 : Int)) (c_n8 : Int))) rfl) _) rfl ?_
  refine WL_val gd0 ((o_gtr rfl rfl) _) rfl ?_
  refine WL_nil ?_
  refine nrm ?_
  refine WC_cond (t := (decide (2000 < (min (min (a_n2 : Int) (b_n5 : Int)) (c_n8 : Int))))) rfl (fun hb11 => ?_) (fun hb11 => ?_)
  · rw [if_pos (of_decide_eq_true hb11)] at h
    refine WC_seq ?_
    refine WC_region ?_
    refine WL_call gd0 (o_call Try.call8 argNil _) rfl (h.mono ?_)
    rintro _ w12 ⟨t13, rfl, h⟩
    refine WL_val gd0 ((o_assign (v := .bool t13) rfl) _) rfl ?_
    refine WL_nil ?_
    refine nrm ?_
    refine WC_ret ?_
    refine rtT ?_
    refine rtE ?_
    exact gv1 rfl rfl h
  · rw [if_neg (of_decide_eq_false hb11)] at h
    refine WC_skip ?_
    refine nrm ?_
    refine WC_seq ?_
    refine WC_region ?_
    refine WL_val gd0 ((o_assign (v := .slice none 0 0) rfl) _) rfl ?_
    refine WL_nil ?_
    refine nrm ?_
    refine WC_seq ?_
    refine WC_seq ?_
    refine WC_region ?_
    refine WL_val gd0 ((o_assign (v := .int .i64 0) rfl) _) rfl ?_
    refine WL_nil ?_
    refine nrm ?_
    refine WC_block ?_
    obtain ⟨J24, ⟨n24, h0⟩, hr24⟩ := h
    refine WC_loop (fun n ρ w' => ∃ (x_a19 : Option Addr) (x_n20 x_c21 : Nat) (i23 : Int), ρ 8 = .slice x_a19 x_n20 x_c21 ∧ ρ 9 = .int .i64 i23 ∧ ρ 0 = .slice a_a1 a_n2 a_c3 ∧ ρ 1 = .slice b_a4 b_n5 b_c6 ∧ ρ 2 = .slice c_a7 c_n8 c_c9 ∧ ρ 7 = .int .i64 (min (min (a_n2 : Int) (b_n5 : Int)) (c_n8 : Int)) ∧ J24 n (x_a19, x_n20, x_c21, i23) w') ⟨n24, _, _, _, _, rfl, rfl, e0, e1, e2, rfl, h0⟩ ?_
    rintro n24 ρ w24 ⟨x_a19, x_n20, x_c21, i23, e8_18, e9_22, e0_14, e1_15, e2_16, e7_17, h⟩
    have h : F7_b1 a_n2 b_n5 c_n8 a_a1 b_a4 c_a7 a_c3 b_c6 c_c9 x_a19 x_n20 x_c21 i23 w24 (fun x0 x1 x2 x3 w => ∃ m, m < n24 ∧ J24 m (x0, x1, x2, x3) w) k := hr24 n24 (x_a19, x_n20, x_c21, i23) w24 h
    unfold F7_b1 at h
    refine WC_seq ?_
    refine WC_seq ?_
    refine WC_region ?_
    refine WL_val gd0 ((o_move (v := .int .i64 i23) (by exact e9_22)) _) rfl ?_
    refine WL_val gd0 ((o_move (v := .int .i64 (min (min (a_n2 : Int) (b_n5 : Int)) (c_n8 : Int))) (by exact e7_17)) _) rfl ?_
    refine WL_val gd0 ((o_lss rfl rfl) _) rfl ?_
    refine WL_nil ?_
    refine nrm ?_
    refine WC_cond (t := (decide (i23 < (min (min (a_n2 : Int) (b_n5 : Int)) (c_n8 : Int))))) rfl (fun hb26 => ?_) (fun hb26 => ?_)
    · rw [if_pos (of_decide_eq_true hb26)] at h
      refine WC_skip ?_
      refine nrm ?_
      refine WC_seq ?_
      refine WC_block ?_
      refine WC_draws [(0, true), (1, true), (2, true), (3, true), (4, true), (5, true), (6, true), (7, true), (8, true), (9, true), (10, true), (11, true), (12, true), (13, true), (14, true), (15, false), (16, false), (17, true)] Try.mixed (by kernel_rfl) ?_
      refine WQ_val rfl gd0 (o_move (v := .slice x_a19 x_n20 x_c21) (by exact e8_18)) rfl ?_
      refine WQ_val rfl gd0 (o_move (v := .slice a_a1 a_n2 a_c3) (by exact e0_14)) rfl ?_
      refine WQ_val rfl gd0 (o_move (v := .int .i64 i23) (by exact e9_22)) rfl ?_
      obtain ⟨p29, q30, h⟩ := h
      obtain ⟨l27, u28, h⟩ := h
      refine WQ_val rfl gd0 (o_indexAddr1 Try.underlying22 Try.sizeOf5 (by exact (congrArg (fun z => Value.slice z a_n2 a_c3) q30)) rfl l27 u28) rfl ?_
      obtain ⟨x31, hc32, h⟩ := h
      refine WQ_look (fun w => w.cell? (p29.add i23.toNat) = some (.int .u8 x31)) rfl gd0 (fun w hc => (o_load Try.isAgg5 rfl hc)) hc32 rfl ?_
      refine WQ_val rfl gd0 (o_move (v := .slice b_a4 b_n5 b_c6) (by exact e1_15)) rfl ?_
      refine WQ_val rfl gd0 (o_move (v := .int .i64 i23) (by exact e9_22)) rfl ?_
      obtain ⟨p35, q36, h⟩ := h
      obtain ⟨l33, u34, h⟩ := h
      refine WQ_val rfl gd0 (o_indexAddr1 Try.underlying22 Try.sizeOf5 (by exact (congrArg (fun z => Value.slice z b_n5 b_c6) q36)) rfl l33 u34) rfl ?_
      obtain ⟨x37, hc38, h⟩ := h
      refine WQ_look (fun w => w.cell? (p35.add i23.toNat) = some (.int .u8 x37)) rfl gd0 (fun w hc => (o_load Try.isAgg5 rfl hc)) hc38 rfl ?_
      refine WQ_val rfl gd0 (o_xor rfl rfl) rfl ?_
      refine WQ_val rfl gd0 (o_move (v := .slice c_a7 c_n8 c_c9) (by exact e2_16)) rfl ?_
      refine WQ_val rfl gd0 (o_move (v := .int .i64 i23) (by exact e9_22)) rfl ?_
      obtain ⟨p41, q42, h⟩ := h
      obtain ⟨l39, u40, h⟩ := h
      refine WQ_val rfl gd0 (o_indexAddr1 Try.underlying22 Try.sizeOf5 (by exact (congrArg (fun z => Value.slice z c_n8 c_c9) q42)) rfl l39 u40) rfl ?_
      obtain ⟨x43, hc44, h⟩ := h
      refine WQ_look (fun w => w.cell? (p41.add i23.toNat) = some (.int .u8 x43)) rfl gd0 (fun w hc => (o_load Try.isAgg5 rfl hc)) hc44 rfl ?_
      refine WQ_val rfl gd0 (o_xor rfl rfl) rfl ?_
      have h := New.out h
      refine WQ_act rfl gd0 (o_buildSlice (e := 5) (ps := [(0, .int .u8 (bxor .u8 (bxor .u8 x31 x37) x43))]) (cs := [.int .u8 (bxor .u8 (bxor .u8 x31 x37) x43)]) (partCons rfl partNil) (fun w => by kernel_rfl)) rfl (by exact ⟨⟨⟨trivial, depT (by kernel_rfl)⟩, depT (by kernel_rfl)⟩, depT (by kernel_rfl)⟩) ?_
      generalize hp45 : fresh w24.drew = p45 at h ⊢
      generalize hw46 : push w24.drew 5 [.int .u8 (bxor .u8 (bxor .u8 x31 x37) x43)] = w46 at h ⊢
      try dsimp only at h
      obtain ⟨b_a47, b_n48, b_c49, w50, r51, h⟩ := h
      refine WQ_act rfl gd0 (o_append rfl rfl r51) rfl (by exact ⟨⟨⟨trivial, depT (by kernel_rfl)⟩, depT (by kernel_rfl)⟩, depT (by kernel_rfl)⟩) ?_
      refine WQ_val rfl gd0 (o_assign (v := .slice b_a47 b_n48 b_c49) rfl) rfl ?_
      refine WQ_nil ?_
      refine nrmB ?_
      refine nrm ?_
      refine WC_region ?_
      refine WL_val gd0 ((o_move (v := .int .i64 i23) (by exact e9_22)) _) rfl ?_
      refine WL_val gd0 ((o_add rfl rfl) _) rfl ?_
      refine WL_val gd0 ((o_assign (v := .int .i64 (IntKind.i64.wrap (i23 + 1))) rfl) _) rfl ?_
      refine WL_nil ?_
      refine nrm ?_
      obtain ⟨m25, hm25, h⟩ := h
      exact ⟨m25, hm25, _, _, _, _, rfl, rfl, e0_14, e1_15, e2_16, e7_17, h⟩
    · rw [if_neg (of_decide_eq_false hb26)] at h
      refine WC_exit ?_
      refine exT ?_
      refine exT ?_
      refine exB ?_
      refine nrm ?_
      refine WC_seq ?_
      refine WC_draws [(0, true), (2, true), (3, true), (4, true), (6, true), (7, true), (8, true), (11, true), (12, true), (13, true), (1, false), (5, false), (9, false), (10, true), (14, false), (15, true), (16, true), (17, true), (18, true), (20, true), (21, true), (22, true), (24, true), (25, true), (26, true), (29, true), (30, true), (31, true), (19, false), (23, false), (27, false), (28, true), (32, false), (33, true), (34, true), (35, true), (36, true), (37, false), (38, true), (39, true)] Try.mixed (by kernel_rfl) ?_
      refine WQ_val rfl gd0 (o_move (v := .slice x_a19 x_n20 x_c21) (by exact e8_18)) rfl ?_
      refine WQ_val rfl gd0 (o_move (v := .slice a_a1 a_n2 a_c3) (by exact e0_14)) rfl ?_
      refine WQ_val rfl gd0 (o_move (v := .int .i64 (min (min (a_n2 : Int) (b_n5 : Int)) (c_n8 : Int))) (by exact e7_17)) rfl ?_
      obtain ⟨c52, c53, h⟩ := h
      refine WQ_val rfl gd0 (o_sliceH Try.underlying22 Try.sizeOf5 rfl rfl c52 c53) rfl ?_
      refine WQ_val rfl gd0 (o_move (v := .slice b_a4 b_n5 b_c6) (by exact e1_15)) rfl ?_
      refine WQ_val rfl gd0 (o_move (v := .int .i64 (min (min (a_n2 : Int) (b_n5 : Int)) (c_n8 : Int))) (by exact e7_17)) rfl ?_
      obtain ⟨c54, c55, h⟩ := h
      refine WQ_val rfl gd0 (o_sliceH Try.underlying22 Try.sizeOf5 rfl rfl c54 c55) rfl ?_
      refine WQ_val rfl gd0 (o_move (v := .slice c_a7 c_n8 c_c9) (by exact e2_16)) rfl ?_
      refine WQ_val rfl gd0 (o_move (v := .int .i64 (min (min (a_n2 : Int) (b_n5 : Int)) (c_n8 : Int))) (by exact e7_17)) rfl ?_
      obtain ⟨c56, c57, h⟩ := h
      refine WQ_val rfl gd0 (o_sliceH Try.underlying22 Try.sizeOf5 rfl rfl c56 c57) rfl ?_
      refine WQ_call rfl gd0 (o_call Try.call9 (argCons rfl argNil) _) rfl (h.mono ?_)
      rintro _ w58 ⟨x59, rfl, h⟩
      refine ⟨trivial, ?_⟩
      refine WQ_call rfl gd0 (o_call Try.call9 (argCons rfl argNil) _) rfl (h.mono ?_)
      rintro _ w60 ⟨x61, rfl, h⟩
      refine ⟨trivial, ?_⟩
      refine WQ_call rfl gd0 (o_call Try.call9 (argCons rfl argNil) _) rfl (h.mono ?_)
      rintro _ w62 ⟨x63, rfl, h⟩
      refine ⟨trivial, ?_⟩
      refine WQ_val rfl gd0 (o_xor rfl rfl) rfl ?_
      refine WQ_call rfl gd0 (o_call Try.call9 (argCons rfl argNil) _) rfl (h.mono ?_)
      rintro _ w64 ⟨x65, rfl, h⟩
      refine ⟨trivial, ?_⟩
      refine WQ_val rfl gd0 (o_xor rfl rfl) rfl ?_
      refine WQ_val rfl gd0 (o_eql rfl rfl) rfl ?_
      refine WQ_val rfl gd0 (o_move (v := .bool (decide (x59 = (bxor .u16 (bxor .u16 x61 x63) x65)))) rfl) rfl ?_
      refine bsplit (decide (x59 = (bxor .u16 (bxor .u16 x61 x63) x65))) (fun hb66 => ?_) (fun hb66 => ?_)
      · rw [if_pos (of_decide_eq_true hb66)] at h
        refine WQ_val rfl (gdY (b := (decide (x59 = (bxor .u16 (bxor .u16 x61 x63) x65)))) 59 rfl rfl hb66) (o_move (v := .slice x_a19 x_n20 x_c21) (by exact e8_18)) rfl ?_
        refine WQ_val rfl (gdY (b := (decide (x59 = (bxor .u16 (bxor .u16 x61 x63) x65)))) 59 rfl rfl hb66) (o_move (v := .slice a_a1 a_n2 a_c3) (by exact e0_14)) rfl ?_
        refine WQ_val rfl (gdY (b := (decide (x59 = (bxor .u16 (bxor .u16 x61 x63) x65)))) 59 rfl rfl hb66) (o_move (v := .int .i64 (min (min (a_n2 : Int) (b_n5 : Int)) (c_n8 : Int))) (by exact e7_17)) rfl ?_
        obtain ⟨c67, c68, h⟩ := h
        refine WQ_val rfl (gdY (b := (decide (x59 = (bxor .u16 (bxor .u16 x61 x63) x65)))) 59 rfl rfl hb66) (o_sliceH Try.underlying22 Try.sizeOf5 rfl rfl c67 c68) rfl ?_
        refine WQ_val rfl (gdY (b := (decide (x59 = (bxor .u16 (bxor .u16 x61 x63) x65)))) 59 rfl rfl hb66) (o_move (v := .slice b_a4 b_n5 b_c6) (by exact e1_15)) rfl ?_
        refine WQ_val rfl (gdY (b := (decide (x59 = (bxor .u16 (bxor .u16 x61 x63) x65)))) 59 rfl rfl hb66) (o_move (v := .int .i64 (min (min (a_n2 : Int) (b_n5 : Int)) (c_n8 : Int))) (by exact e7_17)) rfl ?_
        obtain ⟨c69, c70, h⟩ := h
        refine WQ_val rfl (gdY (b := (decide (x59 = (bxor .u16 (bxor .u16 x61 x63) x65)))) 59 rfl rfl hb66) (o_sliceH Try.underlying22 Try.sizeOf5 rfl rfl c69 c70) rfl ?_
        refine WQ_val rfl (gdY (b := (decide (x59 = (bxor .u16 (bxor .u16 x61 x63) x65)))) 59 rfl rfl hb66) (o_move (v := .slice c_a7 c_n8 c_c9) (by exact e2_16)) rfl ?_
        refine WQ_val rfl (gdY (b := (decide (x59 = (bxor .u16 (bxor .u16 x61 x63) x65)))) 59 rfl rfl hb66) (o_move (v := .int .i64 (min (min (a_n2 : Int) (b_n5 : Int)) (c_n8 : Int))) (by exact e7_17)) rfl ?_
        obtain ⟨c71, c72, h⟩ := h
        refine WQ_val rfl (gdY (b := (decide (x59 = (bxor .u16 (bxor .u16 x61 x63) x65)))) 59 rfl rfl hb66) (o_sliceH Try.underlying22 Try.sizeOf5 rfl rfl c71 c72) rfl ?_
        refine WQ_call rfl (gdY (b := (decide (x59 = (bxor .u16 (bxor .u16 x61 x63) x65)))) 59 rfl rfl hb66) (o_call Try.call13 (argCons rfl argNil) _) rfl (h.mono ?_)
        rintro _ w73 ⟨x74, rfl, h⟩
        refine ⟨trivial, ?_⟩
        refine WQ_call rfl (gdY (b := (decide (x59 = (bxor .u16 (bxor .u16 x61 x63) x65)))) 59 rfl rfl hb66) (o_call Try.call13 (argCons rfl argNil) _) rfl (h.mono ?_)
        rintro _ w75 ⟨x76, rfl, h⟩
        refine ⟨trivial, ?_⟩
        refine WQ_call rfl (gdY (b := (decide (x59 = (bxor .u16 (bxor .u16 x61 x63) x65)))) 59 rfl rfl hb66) (o_call Try.call13 (argCons rfl argNil) _) rfl (h.mono ?_)
        rintro _ w77 ⟨x78, rfl, h⟩
        refine ⟨trivial, ?_⟩
        refine WQ_val rfl (gdY (b := (decide (x59 = (bxor .u16 (bxor .u16 x61 x63) x65)))) 59 rfl rfl hb66) (o_xor rfl rfl) rfl ?_
        refine WQ_call rfl (gdY (b := (decide (x59 = (bxor .u16 (bxor .u16 x61 x63) x65)))) 59 rfl rfl hb66) (o_call Try.call13 (argCons rfl argNil) _) rfl (h.mono ?_)
        rintro _ w79 ⟨x80, rfl, h⟩
        refine ⟨trivial, ?_⟩
        refine WQ_val rfl (gdY (b := (decide (x59 = (bxor .u16 (bxor .u16 x61 x63) x65)))) 59 rfl rfl hb66) (o_xor rfl rfl) rfl ?_
        refine WQ_val rfl (gdY (b := (decide (x59 = (bxor .u16 (bxor .u16 x61 x63) x65)))) 59 rfl rfl hb66) (o_eql rfl rfl) rfl ?_
        refine WQ_val rfl gd0 (o_pickT (v := .bool (decide (x74 = (bxor .u32 (bxor .u32 x76 x78) x80)))) rfl hb66 rfl) rfl ?_
        refine WQ_val rfl gd0 (o_move (v := .bool (decide (x74 = (bxor .u32 (bxor .u32 x76 x78) x80)))) rfl) rfl ?_
        refine bsplit (decide (x74 = (bxor .u32 (bxor .u32 x76 x78) x80))) (fun hb81 => ?_) (fun hb81 => ?_)
        · rw [if_pos (of_decide_eq_true hb81)] at h
          refine WQ_call rfl (gdY (b := (decide (x74 = (bxor .u32 (bxor .u32 x76 x78) x80)))) 78 rfl rfl hb81) (o_call Try.call8 argNil _) rfl (h.mono ?_)
          rintro _ w82 ⟨x83, rfl, h⟩
          refine ⟨trivial, ?_⟩
          refine WQ_val rfl gd0 (o_pickT (v := .bool x83) rfl hb81 rfl) rfl ?_
          refine WQ_val rfl gd0 (o_assign (v := .bool x83) rfl) rfl ?_
          refine WQ_nil ?_
          refine nrm ?_
          refine WC_ret ?_
          refine rtE ?_
          exact gv1 rfl rfl h
        · rw [if_neg (of_decide_eq_false hb81)] at h
          refine WQ_passAct rfl (gdN (b := (decide (x74 = (bxor .u32 (bxor .u32 x76 x78) x80)))) 78 rfl rfl hb81) rfl (by exact trivial) ?_
          refine WQ_val rfl gd0 (o_pickF (v := .bool false) rfl hb81 rfl) rfl ?_
          refine WQ_val rfl gd0 (o_assign (v := .bool false) rfl) rfl ?_
          refine WQ_nil ?_
          refine nrm ?_
          refine WC_ret ?_
          refine rtE ?_
          exact gv1 rfl rfl h
      · rw [if_neg (of_decide_eq_false hb66)] at h
        refine WQ_skip rfl (gdN (b := (decide (x59 = (bxor .u16 (bxor .u16 x61 x63) x65)))) 59 rfl rfl hb66) rfl ?_
        refine WQ_skip rfl (gdN (b := (decide (x59 = (bxor .u16 (bxor .u16 x61 x63) x65)))) 59 rfl rfl hb66) rfl ?_
        refine WQ_skip rfl (gdN (b := (decide (x59 = (bxor .u16 (bxor .u16 x61 x63) x65)))) 59 rfl rfl hb66) rfl ?_
        refine WQ_skip rfl (gdN (b := (decide (x59 = (bxor .u16 (bxor .u16 x61 x63) x65)))) 59 rfl rfl hb66) rfl ?_
        refine WQ_skip rfl (gdN (b := (decide (x59 = (bxor .u16 (bxor .u16 x61 x63) x65)))) 59 rfl rfl hb66) rfl ?_
        refine WQ_skip rfl (gdN (b := (decide (x59 = (bxor .u16 (bxor .u16 x61 x63) x65)))) 59 rfl rfl hb66) rfl ?_
        refine WQ_skip rfl (gdN (b := (decide (x59 = (bxor .u16 (bxor .u16 x61 x63) x65)))) 59 rfl rfl hb66) rfl ?_
        refine WQ_skip rfl (gdN (b := (decide (x59 = (bxor .u16 (bxor .u16 x61 x63) x65)))) 59 rfl rfl hb66) rfl ?_
        refine WQ_skip rfl (gdN (b := (decide (x59 = (bxor .u16 (bxor .u16 x61 x63) x65)))) 59 rfl rfl hb66) rfl ?_
        refine WQ_skip rfl (gdN (b := (decide (x59 = (bxor .u16 (bxor .u16 x61 x63) x65)))) 59 rfl rfl hb66) rfl ?_
        refine WQ_passAct rfl (gdN (b := (decide (x59 = (bxor .u16 (bxor .u16 x61 x63) x65)))) 59 rfl rfl hb66) rfl (by exact trivial) ?_
        refine WQ_passAct rfl (gdN (b := (decide (x59 = (bxor .u16 (bxor .u16 x61 x63) x65)))) 59 rfl rfl hb66) rfl (by exact trivial) ?_
        refine WQ_passAct rfl (gdN (b := (decide (x59 = (bxor .u16 (bxor .u16 x61 x63) x65)))) 59 rfl rfl hb66) rfl (by exact trivial) ?_
        refine WQ_skip rfl (gdN (b := (decide (x59 = (bxor .u16 (bxor .u16 x61 x63) x65)))) 59 rfl rfl hb66) rfl ?_
        refine WQ_passAct rfl (gdN (b := (decide (x59 = (bxor .u16 (bxor .u16 x61 x63) x65)))) 59 rfl rfl hb66) rfl (by exact trivial) ?_
        refine WQ_skip rfl (gdN (b := (decide (x59 = (bxor .u16 (bxor .u16 x61 x63) x65)))) 59 rfl rfl hb66) rfl ?_
        refine WQ_skip rfl (gdN (b := (decide (x59 = (bxor .u16 (bxor .u16 x61 x63) x65)))) 59 rfl rfl hb66) rfl ?_
        refine WQ_val rfl gd0 (o_pickF (v := .bool false) rfl hb66 rfl) rfl ?_
        refine WQ_val rfl gd0 (o_move (v := .bool false) rfl) rfl ?_
        refine WQ_passAct rfl (gdN (b := false) 78 rfl rfl rfl) rfl (by exact trivial) ?_
        refine WQ_val rfl gd0 (o_pickF (v := .bool false) rfl rfl rfl) rfl ?_
        refine WQ_val rfl gd0 (o_assign (v := .bool false) rfl) rfl ?_
        refine WQ_nil ?_
        refine nrm ?_
        refine WC_ret ?_
        refine rtE ?_
        exact gv1 rfl rfl h

/-- spacecraft spacecraftlaw01.alive -/
def F8 (w1 : World) (k : Value → World → Prop) : Prop :=
  New w1 5 [.int .u8 49, .int .u8 50, .int .u8 51, .int .u8 52, .int .u8 53, .int .u8 54, .int .u8 55, .int .u8 56, .int .u8 57] (fun p2 w3 => ∃ (b_a4 : Option Addr) (b_n5 b_c6 : Nat) (w7 : World), (convert 22 22 (.slice (some p2) 9 9)).run Try.prog w3 = .ok (.slice b_a4 b_n5 b_c6) w7 ∧ Does Try.prog 9 #[.slice b_a4 b_n5 b_c6] w7 (fun v w9 => ∃ (x10 : Int), v = .int .u16 x10 ∧ if x10 = 10673 then
  Does Try.prog 13 #[.slice b_a4 b_n5 b_c6] w9 (fun v w12 => ∃ (x13 : Int), v = .int .u32 x13 ∧ if x13 = 3808858755 then
    Does Try.prog 9 #[.slice none 0 0] w12 (fun v w15 => ∃ (x16 : Int), v = .int .u16 x16 ∧ if x16 = 65535 then
      Does Try.prog 13 #[.slice none 0 0] w15 (fun v w18 => ∃ (x19 : Int), v = .int .u32 x19 ∧ if x19 = 0 then
        New w18 5 [.int .u8 0] (fun p21 w22 => Does Try.prog 17 #[.slice (some p21) 1 1] w22 (fun v w23 => ∃ (x_a24 : Option Addr) (x_n25 x_c26 : Nat), v = .slice x_a24 x_n25 x_c26 ∧ ∃ (s27 : ByteArray), (Conv.bytesToString (.slice x_a24 x_n25 x_c26)).run Try.prog w23 = .ok (.string s27) w23 ∧ if (s27.toList == (ByteArray.mk #[0, 225, 240]).toList) = true then
          New w23 5 [.int .u8 0, .int .u8 225, .int .u8 240] (fun p30 w31 => Does Try.prog 19 #[.slice (some p30) 3 3] w31 (fun v w32 => ∃ (x33 : Bool), v = .bool x33 ∧ k (.bool x33) w32))
        else
          k (.bool false) w23))
      else
        k (.bool false) w18)
    else
      k (.bool false) w15)
  else
    k (.bool false) w12)
else
  k (.bool false) w9))
set_option maxRecDepth 100000 in
set_option maxHeartbeats 2000000 in
theorem w8 (w1 : World) (k : Value → World → Prop) (h : F8 w1 k) : Does Try.prog 8 #[] w1 k := by
  refine enter 30 Try.func8 rfl rfl rfl ?_
  intro ρ hρ
  unfold F8 at h
  refine WC_seq ?_
  refine WC_region ?_
  refine WL_val gd0 ((o_assign (v := .bool false) rfl) _) rfl ?_
  refine WL_nil ?_
  refine nrm ?_
  refine WC_seq ?_
  refine WC_region ?_
  have h := New.out h
  refine WL_val gd0 (o_buildSlice (e := 5) (ps := [(0, .int .u8 49), (1, .int .u8 50), (2, .int .u8 51), (3, .int .u8 52), (4, .int .u8 53), (5, .int .u8 54), (6, .int .u8 55), (7, .int .u8 56), (8, .int .u8 57)]) (cs := [.int .u8 49, .int .u8 50, .int .u8 51, .int .u8 52, .int .u8 53, .int .u8 54, .int .u8 55, .int .u8 56, .int .u8 57]) (partCons rfl (partCons rfl (partCons rfl (partCons rfl (partCons rfl (partCons rfl (partCons rfl (partCons rfl (partCons rfl partNil))))))))) (fun w => by kernel_rfl)) rfl ?_
  generalize hp2 : fresh w1 = p2 at h ⊢
  generalize hw3 : push w1 5 [.int .u8 49, .int .u8 50, .int .u8 51, .int .u8 52, .int .u8 53, .int .u8 54, .int .u8 55, .int .u8 56, .int .u8 57] = w3 at h ⊢
  try dsimp only at h
  obtain ⟨b_a4, b_n5, b_c6, w7, r8, h⟩ := h
  refine WL_val gd0 (o_convRun rfl r8) rfl ?_
  refine WL_val gd0 ((o_assign (v := .slice b_a4 b_n5 b_c6) rfl) _) rfl ?_
  refine WL_nil ?_
  refine nrm ?_
  refine WC_seq ?_
  refine WC_region ?_
  refine WL_val gd0 ((o_move (v := .slice b_a4 b_n5 b_c6) rfl) _) rfl ?_
  refine WL_call gd0 (o_call Try.call9 (argCons rfl argNil) _) rfl (h.mono ?_)
  rintro _ w9 ⟨x10, rfl, h⟩
  refine WL_val gd0 ((o_eql rfl rfl) _) rfl ?_
  refine WL_val gd0 ((o_move (v := .bool (decide (x10 = 10673))) rfl) _) rfl ?_
  refine bsplit (decide (x10 = 10673)) (fun hb11 => ?_) (fun hb11 => ?_)
  · rw [if_pos (of_decide_eq_true hb11)] at h
    refine WL_val (gdY (b := (decide (x10 = 10673))) 7 rfl rfl hb11) ((o_move (v := .slice b_a4 b_n5 b_c6) rfl) _) rfl ?_
    refine WL_call (gdY (b := (decide (x10 = 10673))) 7 rfl rfl hb11) (o_call Try.call13 (argCons rfl argNil) _) rfl (h.mono ?_)
    rintro _ w12 ⟨x13, rfl, h⟩
    refine WL_val (gdY (b := (decide (x10 = 10673))) 7 rfl rfl hb11) ((o_eql rfl rfl) _) rfl ?_
    refine WL_val gd0 ((o_pickT (v := .bool (decide (x13 = 3808858755))) rfl hb11 rfl) _) rfl ?_
    refine WL_val gd0 ((o_move (v := .bool (decide (x13 = 3808858755))) rfl) _) rfl ?_
    refine bsplit (decide (x13 = 3808858755)) (fun hb14 => ?_) (fun hb14 => ?_)
    · rw [if_pos (of_decide_eq_true hb14)] at h
      refine WL_call (gdY (b := (decide (x13 = 3808858755))) 12 rfl rfl hb14) (o_call Try.call9 (argCons rfl argNil) _) rfl (h.mono ?_)
      rintro _ w15 ⟨x16, rfl, h⟩
      refine WL_val (gdY (b := (decide (x13 = 3808858755))) 12 rfl rfl hb14) ((o_eql rfl rfl) _) rfl ?_
      refine WL_val gd0 ((o_pickT (v := .bool (decide (x16 = 65535))) rfl hb14 rfl) _) rfl ?_
      refine WL_val gd0 ((o_move (v := .bool (decide (x16 = 65535))) rfl) _) rfl ?_
      refine bsplit (decide (x16 = 65535)) (fun hb17 => ?_) (fun hb17 => ?_)
      · rw [if_pos (of_decide_eq_true hb17)] at h
        refine WL_call (gdY (b := (decide (x16 = 65535))) 16 rfl rfl hb17) (o_call Try.call13 (argCons rfl argNil) _) rfl (h.mono ?_)
        rintro _ w18 ⟨x19, rfl, h⟩
        refine WL_val (gdY (b := (decide (x16 = 65535))) 16 rfl rfl hb17) ((o_eql rfl rfl) _) rfl ?_
        refine WL_val gd0 ((o_pickT (v := .bool (decide (x19 = 0))) rfl hb17 rfl) _) rfl ?_
        refine WL_val gd0 ((o_move (v := .bool (decide (x19 = 0))) rfl) _) rfl ?_
        refine bsplit (decide (x19 = 0)) (fun hb20 => ?_) (fun hb20 => ?_)
        · rw [if_pos (of_decide_eq_true hb20)] at h
          have h := New.out h
          refine WL_val (gdY (b := (decide (x19 = 0))) 20 rfl rfl hb20) (o_buildSlice (e := 5) (ps := [(0, .int .u8 0)]) (cs := [.int .u8 0]) (partCons rfl partNil) (fun w => by kernel_rfl)) rfl ?_
          generalize hp21 : fresh w18 = p21 at h ⊢
          generalize hw22 : push w18 5 [.int .u8 0] = w22 at h ⊢
          try dsimp only at h
          refine WL_call (gdY (b := (decide (x19 = 0))) 20 rfl rfl hb20) (o_call Try.call17 (argCons rfl argNil) _) rfl (h.mono ?_)
          rintro _ w23 ⟨x_a24, x_n25, x_c26, rfl, h⟩
          obtain ⟨s27, r28, h⟩ := h
          refine WL_val (gdY (b := (decide (x19 = 0))) 20 rfl rfl hb20) (o_toStr Try.underlying22 Try.underlying5 Try.underlying9 rfl r28) rfl ?_
          refine WL_val (gdY (b := (decide (x19 = 0))) 20 rfl rfl hb20) ((o_eqlStr rfl rfl) _) rfl ?_
          refine WL_val gd0 ((o_pickT (v := .bool (s27.toList == (ByteArray.mk #[0, 225, 240]).toList)) rfl hb20 rfl) _) rfl ?_
          refine WL_val gd0 ((o_move (v := .bool (s27.toList == (ByteArray.mk #[0, 225, 240]).toList)) rfl) _) rfl ?_
          refine bsplit (s27.toList == (ByteArray.mk #[0, 225, 240]).toList) (fun hb29 => ?_) (fun hb29 => ?_)
          · rw [if_pos hb29] at h
            have h := New.out h
            refine WL_val (gdY (b := (s27.toList == (ByteArray.mk #[0, 225, 240]).toList)) 26 rfl rfl hb29) (o_buildSlice (e := 5) (ps := [(0, .int .u8 0), (1, .int .u8 225), (2, .int .u8 240)]) (cs := [.int .u8 0, .int .u8 225, .int .u8 240]) (partCons rfl (partCons rfl (partCons rfl partNil))) (fun w => by kernel_rfl)) rfl ?_
            generalize hp30 : fresh w23 = p30 at h ⊢
            generalize hw31 : push w23 5 [.int .u8 0, .int .u8 225, .int .u8 240] = w31 at h ⊢
            try dsimp only at h
            refine WL_call (gdY (b := (s27.toList == (ByteArray.mk #[0, 225, 240]).toList)) 26 rfl rfl hb29) (o_call Try.call19 (argCons rfl argNil) _) rfl (h.mono ?_)
            rintro _ w32 ⟨x33, rfl, h⟩
            refine WL_val gd0 ((o_pickT (v := .bool x33) rfl hb29 rfl) _) rfl ?_
            refine WL_val gd0 ((o_assign (v := .bool x33) rfl) _) rfl ?_
            refine WL_nil ?_
            refine nrm ?_
            refine WC_ret ?_
            refine rtE ?_
            exact gv1 rfl rfl h
          · rw [if_neg (neT hb29)] at h
            refine WL_skip (gdN (b := (s27.toList == (ByteArray.mk #[0, 225, 240]).toList)) 26 rfl rfl hb29) rfl ?_
            refine WL_skip (gdN (b := (s27.toList == (ByteArray.mk #[0, 225, 240]).toList)) 26 rfl rfl hb29) rfl ?_
            refine WL_val gd0 ((o_pickF (v := .bool false) rfl hb29 rfl) _) rfl ?_
            refine WL_val gd0 ((o_assign (v := .bool false) rfl) _) rfl ?_
            refine WL_nil ?_
            refine nrm ?_
            refine WC_ret ?_
            refine rtE ?_
            exact gv1 rfl rfl h
        · rw [if_neg (of_decide_eq_false hb20)] at h
          refine WL_skip (gdN (b := (decide (x19 = 0))) 20 rfl rfl hb20) rfl ?_
          refine WL_skip (gdN (b := (decide (x19 = 0))) 20 rfl rfl hb20) rfl ?_
          refine WL_skip (gdN (b := (decide (x19 = 0))) 20 rfl rfl hb20) rfl ?_
          refine WL_skip (gdN (b := (decide (x19 = 0))) 20 rfl rfl hb20) rfl ?_
          refine WL_val gd0 ((o_pickF (v := .bool false) rfl hb20 rfl) _) rfl ?_
          refine WL_val gd0 ((o_move (v := .bool false) rfl) _) rfl ?_
          refine WL_skip (gdN (b := false) 26 rfl rfl rfl) rfl ?_
          refine WL_skip (gdN (b := false) 26 rfl rfl rfl) rfl ?_
          refine WL_val gd0 ((o_pickF (v := .bool false) rfl rfl rfl) _) rfl ?_
          refine WL_val gd0 ((o_assign (v := .bool false) rfl) _) rfl ?_
          refine WL_nil ?_
          refine nrm ?_
          refine WC_ret ?_
          refine rtE ?_
          exact gv1 rfl rfl h
      · rw [if_neg (of_decide_eq_false hb17)] at h
        refine WL_skip (gdN (b := (decide (x16 = 65535))) 16 rfl rfl hb17) rfl ?_
        refine WL_skip (gdN (b := (decide (x16 = 65535))) 16 rfl rfl hb17) rfl ?_
        refine WL_val gd0 ((o_pickF (v := .bool false) rfl hb17 rfl) _) rfl ?_
        refine WL_val gd0 ((o_move (v := .bool false) rfl) _) rfl ?_
        refine WL_skip (gdN (b := false) 20 rfl rfl rfl) rfl ?_
        refine WL_skip (gdN (b := false) 20 rfl rfl rfl) rfl ?_
        refine WL_skip (gdN (b := false) 20 rfl rfl rfl) rfl ?_
        refine WL_skip (gdN (b := false) 20 rfl rfl rfl) rfl ?_
        refine WL_val gd0 ((o_pickF (v := .bool false) rfl rfl rfl) _) rfl ?_
        refine WL_val gd0 ((o_move (v := .bool false) rfl) _) rfl ?_
        refine WL_skip (gdN (b := false) 26 rfl rfl rfl) rfl ?_
        refine WL_skip (gdN (b := false) 26 rfl rfl rfl) rfl ?_
        refine WL_val gd0 ((o_pickF (v := .bool false) rfl rfl rfl) _) rfl ?_
        refine WL_val gd0 ((o_assign (v := .bool false) rfl) _) rfl ?_
        refine WL_nil ?_
        refine nrm ?_
        refine WC_ret ?_
        refine rtE ?_
        exact gv1 rfl rfl h
    · rw [if_neg (of_decide_eq_false hb14)] at h
      refine WL_skip (gdN (b := (decide (x13 = 3808858755))) 12 rfl rfl hb14) rfl ?_
      refine WL_skip (gdN (b := (decide (x13 = 3808858755))) 12 rfl rfl hb14) rfl ?_
      refine WL_val gd0 ((o_pickF (v := .bool false) rfl hb14 rfl) _) rfl ?_
      refine WL_val gd0 ((o_move (v := .bool false) rfl) _) rfl ?_
      refine WL_skip (gdN (b := false) 16 rfl rfl rfl) rfl ?_
      refine WL_skip (gdN (b := false) 16 rfl rfl rfl) rfl ?_
      refine WL_val gd0 ((o_pickF (v := .bool false) rfl rfl rfl) _) rfl ?_
      refine WL_val gd0 ((o_move (v := .bool false) rfl) _) rfl ?_
      refine WL_skip (gdN (b := false) 20 rfl rfl rfl) rfl ?_
      refine WL_skip (gdN (b := false) 20 rfl rfl rfl) rfl ?_
      refine WL_skip (gdN (b := false) 20 rfl rfl rfl) rfl ?_
      refine WL_skip (gdN (b := false) 20 rfl rfl rfl) rfl ?_
      refine WL_val gd0 ((o_pickF (v := .bool false) rfl rfl rfl) _) rfl ?_
      refine WL_val gd0 ((o_move (v := .bool false) rfl) _) rfl ?_
      refine WL_skip (gdN (b := false) 26 rfl rfl rfl) rfl ?_
      refine WL_skip (gdN (b := false) 26 rfl rfl rfl) rfl ?_
      refine WL_val gd0 ((o_pickF (v := .bool false) rfl rfl rfl) _) rfl ?_
      refine WL_val gd0 ((o_assign (v := .bool false) rfl) _) rfl ?_
      refine WL_nil ?_
      refine nrm ?_
      refine WC_ret ?_
      refine rtE ?_
      exact gv1 rfl rfl h
  · rw [if_neg (of_decide_eq_false hb11)] at h
    refine WL_skip (gdN (b := (decide (x10 = 10673))) 7 rfl rfl hb11) rfl ?_
    refine WL_skip (gdN (b := (decide (x10 = 10673))) 7 rfl rfl hb11) rfl ?_
    refine WL_skip (gdN (b := (decide (x10 = 10673))) 7 rfl rfl hb11) rfl ?_
    refine WL_val gd0 ((o_pickF (v := .bool false) rfl hb11 rfl) _) rfl ?_
    refine WL_val gd0 ((o_move (v := .bool false) rfl) _) rfl ?_
    refine WL_skip (gdN (b := false) 12 rfl rfl rfl) rfl ?_
    refine WL_skip (gdN (b := false) 12 rfl rfl rfl) rfl ?_
    refine WL_val gd0 ((o_pickF (v := .bool false) rfl rfl rfl) _) rfl ?_
    refine WL_val gd0 ((o_move (v := .bool false) rfl) _) rfl ?_
    refine WL_skip (gdN (b := false) 16 rfl rfl rfl) rfl ?_
    refine WL_skip (gdN (b := false) 16 rfl rfl rfl) rfl ?_
    refine WL_val gd0 ((o_pickF (v := .bool false) rfl rfl rfl) _) rfl ?_
    refine WL_val gd0 ((o_move (v := .bool false) rfl) _) rfl ?_
    refine WL_skip (gdN (b := false) 20 rfl rfl rfl) rfl ?_
    refine WL_skip (gdN (b := false) 20 rfl rfl rfl) rfl ?_
    refine WL_skip (gdN (b := false) 20 rfl rfl rfl) rfl ?_
    refine WL_skip (gdN (b := false) 20 rfl rfl rfl) rfl ?_
    refine WL_val gd0 ((o_pickF (v := .bool false) rfl rfl rfl) _) rfl ?_
    refine WL_val gd0 ((o_move (v := .bool false) rfl) _) rfl ?_
    refine WL_skip (gdN (b := false) 26 rfl rfl rfl) rfl ?_
    refine WL_skip (gdN (b := false) 26 rfl rfl rfl) rfl ?_
    refine WL_val gd0 ((o_pickF (v := .bool false) rfl rfl rfl) _) rfl ?_
    refine WL_val gd0 ((o_assign (v := .bool false) rfl) _) rfl ?_
    refine WL_nil ?_
    refine nrm ?_
    refine WC_ret ?_
    refine rtE ?_
    exact gv1 rfl rfl h

/-- spacecraft crc.Sum16 -/
def F9 (b_a1 : Option Addr) (b_n2 : Nat) (b_c3 : Nat) (w4 : World) (k : Value → World → Prop) : Prop :=
  Does Try.prog 11 #[.int .u16 65535, .slice b_a1 b_n2 b_c3] w4 (fun v w5 => ∃ (t6 : Int), v = .int .u16 t6 ∧ k (.int .u16 t6) w5)
set_option maxRecDepth 100000 in
set_option maxHeartbeats 2000000 in
theorem w9 (b_a1 : Option Addr) (b_n2 : Nat) (b_c3 : Nat) (w4 : World) (k : Value → World → Prop) (h : F9 b_a1 b_n2 b_c3 w4 k) : Does Try.prog 9 #[.slice b_a1 b_n2 b_c3] w4 k := by
  refine enter 5 Try.func9 rfl rfl rfl ?_
  intro ρ hρ
  have e0 := hρ 0 _ rfl
  unfold F9 at h
  refine WC_seq ?_
  refine WC_region ?_
  refine WL_val gd0 ((o_assign (v := .int .u16 0) rfl) _) rfl ?_
  refine WL_nil ?_
  refine nrm ?_
  refine WC_seq ?_
  refine WC_region ?_
  refine WL_val gd0 ((o_move (v := .slice b_a1 b_n2 b_c3) (by exact e0)) _) rfl ?_
  refine WL_call gd0 (o_call Try.call11 (argCons rfl (argCons rfl argNil)) _) rfl (h.mono ?_)
  rintro _ w5 ⟨t6, rfl, h⟩
  refine WL_val gd0 ((o_assign (v := .int .u16 t6) rfl) _) rfl ?_
  refine WL_nil ?_
  refine nrm ?_
  refine WC_ret ?_
  refine rtE ?_
  exact gv1 rfl rfl h

/-- spacecraft spacecraftref01.Sum16 -/
def F10 (b_a1 : Option Addr) (b_n2 : Nat) (b_c3 : Nat) (w4 : World) (k : Value → World → Prop) : Prop :=
  Does Try.prog 12 #[.int .u16 65535, .slice b_a1 b_n2 b_c3] w4 (fun v w5 => ∃ (t6 : Int), v = .int .u16 t6 ∧ k (.int .u16 t6) w5)
set_option maxRecDepth 100000 in
set_option maxHeartbeats 2000000 in
theorem w10 (b_a1 : Option Addr) (b_n2 : Nat) (b_c3 : Nat) (w4 : World) (k : Value → World → Prop) (h : F10 b_a1 b_n2 b_c3 w4 k) : Does Try.prog 10 #[.slice b_a1 b_n2 b_c3] w4 k := by
  refine enter 5 Try.func10 rfl rfl rfl ?_
  intro ρ hρ
  have e0 := hρ 0 _ rfl
  unfold F10 at h
  refine WC_seq ?_
  refine WC_region ?_
  refine WL_val gd0 ((o_assign (v := .int .u16 0) rfl) _) rfl ?_
  refine WL_nil ?_
  refine nrm ?_
  refine WC_seq ?_
  refine WC_region ?_
  refine WL_val gd0 ((o_move (v := .slice b_a1 b_n2 b_c3) (by exact e0)) _) rfl ?_
  refine WL_call gd0 (o_call Try.call12 (argCons rfl (argCons rfl argNil)) _) rfl (h.mono ?_)
  rintro _ w5 ⟨t6, rfl, h⟩
  refine WL_val gd0 ((o_assign (v := .int .u16 t6) rfl) _) rfl ?_
  refine WL_nil ?_
  refine nrm ?_
  refine WC_ret ?_
  refine rtE ?_
  exact gv1 rfl rfl h

def F11_b2 (t11 : Int) (c22 : Int) (t27 : Int) (w28 : World) (nx28 : Int → Int → World → Prop) (nx12 : Int → Int → World → Prop) : Prop :=
  if t27 < 8 then
  if (shr .u16 c22 15) = 1 then
    nx28 (bxor .u16 (shl .u16 c22 1) 4129) (IntKind.i64.wrap (t27 + 1)) w28
  else
    nx28 (shl .u16 c22 1) (IntKind.i64.wrap (t27 + 1)) w28
else
  nx12 c22 (IntKind.i64.wrap (t11 + 1)) w28
def F11_b1 (b_n3 : Nat) (b_a2 : Option Addr) (c7 : Int) (t11 : Int) (w12 : World) (nx12 : Int → Int → World → Prop) (k : Value → World → Prop) : Prop :=
  if t11 < (b_n3 : Int) then
  ∃ (p17 : Addr), b_a2 = some p17 ∧ (0 : Int) ≤ t11 ∧ t11 < (b_n3 : Int) ∧ ∃ (x19 : Int), w12.cell? (p17.add t11.toNat) = some (.int .u8 x19) ∧ LoopP (fun (s : Int × Int) w' nx' => F11_b2 t11 (s.1) (s.2) w' (fun x0 x1 w => nx' (x0, x1) w) nx12) ((bxor .u16 c7 (shl .u16 (IntKind.u16.wrap x19) 8)), 0) w12
else
  k (.int .u16 c7) w12
/-- spacecraft crc.Update16 -/
def F11 (c1 : Int) (b_a2 : Option Addr) (b_n3 : Nat) (b_c4 : Nat) (w5 : World) (k : Value → World → Prop) : Prop :=
  LoopP (fun (s : Int × Int) w' nx' => F11_b1 b_n3 b_a2 (s.1) (s.2) w' (fun x0 x1 w => nx' (x0, x1) w) k) (c1, 0) w5
set_option maxRecDepth 100000 in
set_option maxHeartbeats 2000000 in
theorem w11 (c1 : Int) (b_a2 : Option Addr) (b_n3 : Nat) (b_c4 : Nat) (w5 : World) (k : Value → World → Prop) (h : F11 c1 b_a2 b_n3 b_c4 w5 k) : Does Try.prog 11 #[.int .u16 c1, .slice b_a2 b_n3 b_c4] w5 k := by
  refine enter 32 Try.func11 rfl rfl rfl ?_
  intro ρ hρ
  have e0 := hρ 0 _ rfl
  have e1 := hρ 1 _ rfl
  unfold F11 at h
  refine WC_seq ?_
  refine WC_region ?_
  refine WL_val gd0 ((o_assign (v := .int .u16 0) rfl) _) rfl ?_
  refine WL_nil ?_
  refine nrm ?_
  refine WC_seq ?_
  refine WC_seq ?_
  refine WC_region ?_
  refine WL_val gd0 ((o_move (v := .slice b_a2 b_n3 b_c4) (by exact e1)) _) rfl ?_
  refine WL_val gd0 ((o_len Try.underlying22 rfl) _) rfl ?_
  refine WL_val gd0 ((o_move (v := .int .i64 0) rfl) _) rfl ?_
  refine WL_nil ?_
  refine nrm ?_
  refine WC_block ?_
  obtain ⟨J12, ⟨n12, h0⟩, hr12⟩ := h
  refine WC_loop (fun n ρ w' => ∃ (c7 t11 : Int), ρ 0 = .int .u16 c7 ∧ ρ 10 = .int .i64 t11 ∧ ρ 8 = .slice b_a2 b_n3 b_c4 ∧ ρ 9 = .int .i64 (b_n3 : Int) ∧ J12 n (c7, t11) w') ⟨n12, _, _, e0, rfl, rfl, rfl, h0⟩ ?_
  rintro n12 ρ w12 ⟨c7, t11, e0_6, e10_10, e8_8, e9_9, h⟩
  have h : F11_b1 b_n3 b_a2 c7 t11 w12 (fun x0 x1 w => ∃ m, m < n12 ∧ J12 m (x0, x1) w) k := hr12 n12 (c7, t11) w12 h
  unfold F11_b1 at h
  refine WC_seq ?_
  refine WC_region ?_
  refine WL_val gd0 ((o_lss (by exact e10_10) (by exact e9_9)) _) rfl ?_
  refine WL_nil ?_
  refine nrm ?_
  refine WC_seq ?_
  refine WC_cond (t := (decide (t11 < (b_n3 : Int)))) rfl (fun hb14 => ?_) (fun hb14 => ?_)
  · rw [if_pos (of_decide_eq_true hb14)] at h
    refine WC_skip ?_
    refine nrm ?_
    refine WC_seq ?_
    refine WC_block ?_
    refine WC_seq ?_
    refine WC_region ?_
    obtain ⟨p17, q18, h⟩ := h
    obtain ⟨l15, u16, h⟩ := h
    refine WL_val gd0 ((o_indexAddr1 Try.underlying22 Try.sizeOf5 (by exact (Eq.trans e8_8 (congrArg (fun z => Value.slice z b_n3 b_c4) q18))) (by exact e10_10) l15 u16) _) rfl ?_
    obtain ⟨x19, hc20, h⟩ := h
    refine WL_val gd0 (o_load Try.isAgg5 rfl hc20) rfl ?_
    refine WL_val gd0 ((o_assign (v := .int .u8 x19) rfl) _) rfl ?_
    refine WL_nil ?_
    refine nrm ?_
    refine WC_seq ?_
    refine WC_region ?_
    refine WL_val gd0 ((o_move (v := .int .u16 c7) (by exact e0_6)) _) rfl ?_
    refine WL_val gd0 ((o_move (v := .int .u8 x19) rfl) _) rfl ?_
    refine WL_val gd0 ((o_conv Try.underlying5 Try.underlying23 rfl) _) rfl ?_
    refine WL_val gd0 ((o_shl rfl rfl (by decide)) _) rfl ?_
    refine WL_val gd0 ((o_xor rfl rfl) _) rfl ?_
    refine WL_val gd0 ((o_assign (v := .int .u16 (bxor .u16 c7 (shl .u16 (IntKind.u16.wrap x19) 8))) rfl) _) rfl ?_
    refine WL_nil ?_
    refine nrm ?_
    refine WC_seq ?_
    refine WC_region ?_
    refine WL_val gd0 ((o_move (v := .int .i64 0) rfl) _) rfl ?_
    refine WL_nil ?_
    refine nrm ?_
    refine WC_block ?_
    obtain ⟨J28, ⟨n28, h0⟩, hr28⟩ := h
    refine WC_loop (fun n ρ w' => ∃ (c22 t27 : Int), ρ 0 = .int .u16 c22 ∧ ρ 19 = .int .i64 t27 ∧ ρ 8 = .slice b_a2 b_n3 b_c4 ∧ ρ 9 = .int .i64 (b_n3 : Int) ∧ ρ 10 = .int .i64 t11 ∧ J28 n (c22, t27) w') ⟨n28, _, _, rfl, rfl, e8_8, e9_9, e10_10, h0⟩ ?_
    rintro n28 ρ w28 ⟨c22, t27, e0_21, e19_26, e8_23, e9_24, e10_25, h⟩
    have h : F11_b2 t11 c22 t27 w28 (fun x0 x1 w => ∃ m, m < n28 ∧ J28 m (x0, x1) w) (fun x0 x1 w => ∃ m, m < n12 ∧ J12 m (x0, x1) w) := hr28 n28 (c22, t27) w28 h
    unfold F11_b2 at h
    refine WC_seq ?_
    refine WC_region ?_
    refine WL_val gd0 ((o_lss (by exact e19_26) rfl) _) rfl ?_
    refine WL_nil ?_
    refine nrm ?_
    refine WC_seq ?_
    refine WC_cond (t := (decide (t27 < 8))) rfl (fun hb30 => ?_) (fun hb30 => ?_)
    · rw [if_pos (of_decide_eq_true hb30)] at h
      refine WC_skip ?_
      refine nrm ?_
      refine WC_seq ?_
      refine WC_block ?_
      refine WC_seq ?_
      refine WC_region ?_
      refine WL_val gd0 ((o_move (v := .int .u16 c22) (by exact e0_21)) _) rfl ?_
      refine WL_val gd0 ((o_shr rfl rfl (by decide)) _) rfl ?_
      refine WL_val gd0 ((o_assign (v := .int .u16 (shr .u16 c22 15)) rfl) _) rfl ?_
      refine WL_nil ?_
      refine nrm ?_
      refine WC_seq ?_
      refine WC_region ?_
      refine WL_val gd0 ((o_move (v := .int .u16 c22) (by exact e0_21)) _) rfl ?_
      refine WL_val gd0 ((o_shl rfl rfl (by decide)) _) rfl ?_
      refine WL_val gd0 ((o_assign (v := .int .u16 (shl .u16 c22 1)) rfl) _) rfl ?_
      refine WL_nil ?_
      refine nrm ?_
      refine WC_seq ?_
      refine WC_region ?_
      refine WL_val gd0 ((o_move (v := .int .u16 (shr .u16 c22 15)) rfl) _) rfl ?_
      refine WL_val gd0 ((o_eql rfl rfl) _) rfl ?_
      refine WL_nil ?_
      refine nrm ?_
      refine WC_cond (t := (decide ((shr .u16 c22 15) = 1))) rfl (fun hb31 => ?_) (fun hb31 => ?_)
      · rw [if_pos (of_decide_eq_true hb31)] at h
        refine WC_region ?_
        refine WL_val gd0 ((o_move (v := .int .u16 (shl .u16 c22 1)) rfl) _) rfl ?_
        refine WL_val gd0 ((o_xor rfl rfl) _) rfl ?_
        refine WL_val gd0 ((o_assign (v := .int .u16 (bxor .u16 (shl .u16 c22 1) 4129)) rfl) _) rfl ?_
        refine WL_nil ?_
        refine nrmB ?_
        refine nrm ?_
        refine WC_region ?_
        refine WL_val gd0 ((o_add (by exact e19_26) rfl) _) rfl ?_
        refine WL_val gd0 ((o_move (v := .int .i64 (IntKind.i64.wrap (t27 + 1))) rfl) _) rfl ?_
        refine WL_nil ?_
        refine nrm ?_
        obtain ⟨m29, hm29, h⟩ := h
        exact ⟨m29, hm29, _, _, rfl, rfl, e8_23, e9_24, e10_25, h⟩
      · rw [if_neg (of_decide_eq_false hb31)] at h
        refine WC_skip ?_
        refine nrmB ?_
        refine nrm ?_
        refine WC_region ?_
        refine WL_val gd0 ((o_add (by exact e19_26) rfl) _) rfl ?_
        refine WL_val gd0 ((o_move (v := .int .i64 (IntKind.i64.wrap (t27 + 1))) rfl) _) rfl ?_
        refine WL_nil ?_
        refine nrm ?_
        obtain ⟨m29, hm29, h⟩ := h
        exact ⟨m29, hm29, _, _, rfl, rfl, e8_23, e9_24, e10_25, h⟩
    · rw [if_neg (of_decide_eq_false hb30)] at h
      refine WC_exit ?_
      refine exT ?_
      refine exT ?_
      refine exB ?_
      refine nrmB ?_
      refine nrm ?_
      refine WC_region ?_
      refine WL_val gd0 ((o_add (by exact e10_25) rfl) _) rfl ?_
      refine WL_val gd0 ((o_move (v := .int .i64 (IntKind.i64.wrap (t11 + 1))) rfl) _) rfl ?_
      refine WL_nil ?_
      refine nrm ?_
      obtain ⟨m13, hm13, h⟩ := h
      exact ⟨m13, hm13, _, _, e0_21, rfl, e8_23, e9_24, h⟩
  · rw [if_neg (of_decide_eq_false hb14)] at h
    refine WC_exit ?_
    refine exT ?_
    refine exT ?_
    refine exB ?_
    refine nrm ?_
    refine WC_seq ?_
    refine WC_region ?_
    refine WL_val gd0 ((o_move (v := .int .u16 c7) (by exact e0_6)) _) rfl ?_
    refine WL_val gd0 ((o_assign (v := .int .u16 c7) rfl) _) rfl ?_
    refine WL_nil ?_
    refine nrm ?_
    refine WC_ret ?_
    refine rtE ?_
    exact gv1 rfl rfl h

def F12_b1 (b_n3 : Nat) (b_a2 : Option Addr) (b_c4 : Nat) (r8 : Int) (i10 : Int) (w11 : World) (nx11 : Int → Int → World → Prop) (k : Value → World → Prop) : Prop :=
  if i10 < (IntKind.i64.wrap (8 * (b_n3 : Int))) then
  Does Try.prog 22 #[.slice b_a2 b_n3 b_c4, .int .i64 i10] w11 (fun v w14 => ∃ (x15 : Int), v = .int .i64 x15 ∧ if (Int.tmod (IntKind.i64.wrap ((shr .i64 r8 15) + x15)) 2) = 1 then
    nx11 (bxor .i64 (Int.tmod (IntKind.i64.wrap (r8 * 2)) 65536) 4129) (IntKind.i64.wrap (i10 + 1)) w14
  else
    nx11 (Int.tmod (IntKind.i64.wrap (r8 * 2)) 65536) (IntKind.i64.wrap (i10 + 1)) w14)
else
  k (.int .u16 (IntKind.u16.wrap r8)) w11
/-- spacecraft spacecraftref01.Update16 -/
def F12 (c1 : Int) (b_a2 : Option Addr) (b_n3 : Nat) (b_c4 : Nat) (w5 : World) (k : Value → World → Prop) : Prop :=
  LoopP (fun (s : Int × Int) w' nx' => F12_b1 b_n3 b_a2 b_c4 (s.1) (s.2) w' (fun x0 x1 w => nx' (x0, x1) w) k) ((IntKind.i64.wrap c1), 0) w5
set_option maxRecDepth 100000 in
set_option maxHeartbeats 2000000 in
theorem w12 (c1 : Int) (b_a2 : Option Addr) (b_n3 : Nat) (b_c4 : Nat) (w5 : World) (k : Value → World → Prop) (h : F12 c1 b_a2 b_n3 b_c4 w5 k) : Does Try.prog 12 #[.int .u16 c1, .slice b_a2 b_n3 b_c4] w5 k := by
  refine enter 33 Try.func12 rfl rfl rfl ?_
  intro ρ hρ
  have e0 := hρ 0 _ rfl
  have e1 := hρ 1 _ rfl
  unfold F12 at h
  refine WC_seq ?_
  refine WC_region ?_
  refine WL_val gd0 ((o_assign (v := .int .u16 0) rfl) _) rfl ?_
  refine WL_nil ?_
  refine nrm ?_
  refine WC_seq ?_
  refine WC_region ?_
  refine WL_val gd0 ((o_move (v := .int .u16 c1) (by exact e0)) _) rfl ?_
  refine WL_val gd0 ((o_conv Try.underlying23 Try.underlying3 rfl) _) rfl ?_
  refine WL_val gd0 ((o_assign (v := .int .i64 (IntKind.i64.wrap c1)) rfl) _) rfl ?_
  refine WL_nil ?_
  refine nrm ?_
  refine WC_seq ?_
  refine WC_seq ?_
  refine WC_region ?_
  refine WL_val gd0 ((o_assign (v := .int .i64 0) rfl) _) rfl ?_
  refine WL_nil ?_
  refine nrm ?_
  refine WC_block ?_
  obtain ⟨J11, ⟨n11, h0⟩, hr11⟩ := h
  refine WC_loop (fun n ρ w' => ∃ (r8 i10 : Int), ρ 5 = .int .i64 r8 ∧ ρ 6 = .int .i64 i10 ∧ ρ 1 = .slice b_a2 b_n3 b_c4 ∧ J11 n (r8, i10) w') ⟨n11, _, _, rfl, rfl, e1, h0⟩ ?_
  rintro n11 ρ w11 ⟨r8, i10, e5_7, e6_9, e1_6, h⟩
  have h : F12_b1 b_n3 b_a2 b_c4 r8 i10 w11 (fun x0 x1 w => ∃ m, m < n11 ∧ J11 m (x0, x1) w) k := hr11 n11 (r8, i10) w11 h
  unfold F12_b1 at h
  refine WC_seq ?_
  refine WC_seq ?_
  refine WC_region ?_
  refine WL_val gd0 ((o_move (v := .int .i64 i10) (by exact e6_9)) _) rfl ?_
  refine WL_val gd0 ((o_move (v := .slice b_a2 b_n3 b_c4) (by exact e1_6)) _) rfl ?_
  refine WL_val gd0 ((o_len Try.underlying22 rfl) _) rfl ?_
  refine WL_val gd0 ((o_mul rfl rfl) _) rfl ?_
  refine WL_val gd0 ((o_lss rfl rfl) _) rfl ?_
  refine WL_nil ?_
  refine nrm ?_
  refine WC_cond (t := (decide (i10 < (IntKind.i64.wrap (8 * (b_n3 : Int)))))) rfl (fun hb13 => ?_) (fun hb13 => ?_)
  · rw [if_pos (of_decide_eq_true hb13)] at h
    refine WC_skip ?_
    refine nrm ?_
    refine WC_seq ?_
    refine WC_block ?_
    refine WC_seq ?_
    refine WC_region ?_
    refine WL_val gd0 ((o_move (v := .int .i64 r8) (by exact e5_7)) _) rfl ?_
    refine WL_val gd0 ((o_shr rfl rfl (by decide)) _) rfl ?_
    refine WL_val gd0 ((o_move (v := .slice b_a2 b_n3 b_c4) (by exact e1_6)) _) rfl ?_
    refine WL_val gd0 ((o_move (v := .int .i64 i10) (by exact e6_9)) _) rfl ?_
    refine WL_call gd0 (o_call Try.call22 (argCons rfl (argCons rfl argNil)) _) rfl (h.mono ?_)
    rintro _ w14 ⟨x15, rfl, h⟩
    refine WL_val gd0 ((o_add rfl rfl) _) rfl ?_
    refine WL_val gd0 ((fun w => o_rem rfl rfl w (by decide)) _) rfl ?_
    refine WL_val gd0 ((o_eql rfl rfl) _) rfl ?_
    refine WL_val gd0 ((o_assign (v := .bool (decide ((Int.tmod (IntKind.i64.wrap ((shr .i64 r8 15) + x15)) 2) = 1))) rfl) _) rfl ?_
    refine WL_nil ?_
    refine nrm ?_
    refine WC_seq ?_
    refine WC_region ?_
    refine WL_val gd0 ((o_move (v := .int .i64 r8) (by exact e5_7)) _) rfl ?_
    refine WL_val gd0 ((o_mul rfl rfl) _) rfl ?_
    refine WL_val gd0 ((fun w => o_rem rfl rfl w (by decide)) _) rfl ?_
    refine WL_val gd0 ((o_assign (v := .int .i64 (Int.tmod (IntKind.i64.wrap (r8 * 2)) 65536)) rfl) _) rfl ?_
    refine WL_nil ?_
    refine nrm ?_
    refine WC_seq ?_
    refine WC_region ?_
    refine WL_val gd0 ((o_move (v := .bool (decide ((Int.tmod (IntKind.i64.wrap ((shr .i64 r8 15) + x15)) 2) = 1))) rfl) _) rfl ?_
    refine WL_nil ?_
    refine nrm ?_
    refine WC_cond (t := (decide ((Int.tmod (IntKind.i64.wrap ((shr .i64 r8 15) + x15)) 2) = 1))) rfl (fun hb16 => ?_) (fun hb16 => ?_)
    · rw [if_pos (of_decide_eq_true hb16)] at h
      refine WC_region ?_
      refine WL_val gd0 ((o_move (v := .int .i64 (Int.tmod (IntKind.i64.wrap (r8 * 2)) 65536)) rfl) _) rfl ?_
      refine WL_val gd0 ((o_xor rfl rfl) _) rfl ?_
      refine WL_val gd0 ((o_assign (v := .int .i64 (bxor .i64 (Int.tmod (IntKind.i64.wrap (r8 * 2)) 65536) 4129)) rfl) _) rfl ?_
      refine WL_nil ?_
      refine nrmB ?_
      refine nrm ?_
      refine WC_region ?_
      refine WL_val gd0 ((o_move (v := .int .i64 i10) (by exact e6_9)) _) rfl ?_
      refine WL_val gd0 ((o_add rfl rfl) _) rfl ?_
      refine WL_val gd0 ((o_assign (v := .int .i64 (IntKind.i64.wrap (i10 + 1))) rfl) _) rfl ?_
      refine WL_nil ?_
      refine nrm ?_
      obtain ⟨m12, hm12, h⟩ := h
      exact ⟨m12, hm12, _, _, rfl, rfl, e1_6, h⟩
    · rw [if_neg (of_decide_eq_false hb16)] at h
      refine WC_skip ?_
      refine nrmB ?_
      refine nrm ?_
      refine WC_region ?_
      refine WL_val gd0 ((o_move (v := .int .i64 i10) (by exact e6_9)) _) rfl ?_
      refine WL_val gd0 ((o_add rfl rfl) _) rfl ?_
      refine WL_val gd0 ((o_assign (v := .int .i64 (IntKind.i64.wrap (i10 + 1))) rfl) _) rfl ?_
      refine WL_nil ?_
      refine nrm ?_
      obtain ⟨m12, hm12, h⟩ := h
      exact ⟨m12, hm12, _, _, rfl, rfl, e1_6, h⟩
  · rw [if_neg (of_decide_eq_false hb13)] at h
    refine WC_exit ?_
    refine exT ?_
    refine exT ?_
    refine exB ?_
    refine nrm ?_
    refine WC_seq ?_
    refine WC_region ?_
    refine WL_val gd0 ((o_move (v := .int .i64 r8) (by exact e5_7)) _) rfl ?_
    refine WL_val gd0 ((o_conv Try.underlying3 Try.underlying23 rfl) _) rfl ?_
    refine WL_val gd0 ((o_assign (v := .int .u16 (IntKind.u16.wrap r8)) rfl) _) rfl ?_
    refine WL_nil ?_
    refine nrm ?_
    refine WC_ret ?_
    refine rtE ?_
    exact gv1 rfl rfl h

/-- spacecraft crc.Sum32 -/
def F13 (b_a1 : Option Addr) (b_n2 : Nat) (b_c3 : Nat) (w4 : World) (k : Value → World → Prop) : Prop :=
  Does Try.prog 15 #[.int .u32 0, .slice b_a1 b_n2 b_c3] w4 (fun v w5 => ∃ (t6 : Int), v = .int .u32 t6 ∧ k (.int .u32 t6) w5)
set_option maxRecDepth 100000 in
set_option maxHeartbeats 2000000 in
theorem w13 (b_a1 : Option Addr) (b_n2 : Nat) (b_c3 : Nat) (w4 : World) (k : Value → World → Prop) (h : F13 b_a1 b_n2 b_c3 w4 k) : Does Try.prog 13 #[.slice b_a1 b_n2 b_c3] w4 k := by
  refine enter 5 Try.func13 rfl rfl rfl ?_
  intro ρ hρ
  have e0 := hρ 0 _ rfl
  unfold F13 at h
  refine WC_seq ?_
  refine WC_region ?_
  refine WL_val gd0 ((o_assign (v := .int .u32 0) rfl) _) rfl ?_
  refine WL_nil ?_
  refine nrm ?_
  refine WC_seq ?_
  refine WC_region ?_
  refine WL_val gd0 ((o_move (v := .slice b_a1 b_n2 b_c3) (by exact e0)) _) rfl ?_
  refine WL_call gd0 (o_call Try.call15 (argCons rfl (argCons rfl argNil)) _) rfl (h.mono ?_)
  rintro _ w5 ⟨t6, rfl, h⟩
  refine WL_val gd0 ((o_assign (v := .int .u32 t6) rfl) _) rfl ?_
  refine WL_nil ?_
  refine nrm ?_
  refine WC_ret ?_
  refine rtE ?_
  exact gv1 rfl rfl h

/-- spacecraft spacecraftref01.Sum32 -/
def F14 (b_a1 : Option Addr) (b_n2 : Nat) (b_c3 : Nat) (w4 : World) (k : Value → World → Prop) : Prop :=
  Does Try.prog 16 #[.int .u32 0, .slice b_a1 b_n2 b_c3] w4 (fun v w5 => ∃ (t6 : Int), v = .int .u32 t6 ∧ k (.int .u32 t6) w5)
set_option maxRecDepth 100000 in
set_option maxHeartbeats 2000000 in
theorem w14 (b_a1 : Option Addr) (b_n2 : Nat) (b_c3 : Nat) (w4 : World) (k : Value → World → Prop) (h : F14 b_a1 b_n2 b_c3 w4 k) : Does Try.prog 14 #[.slice b_a1 b_n2 b_c3] w4 k := by
  refine enter 5 Try.func14 rfl rfl rfl ?_
  intro ρ hρ
  have e0 := hρ 0 _ rfl
  unfold F14 at h
  refine WC_seq ?_
  refine WC_region ?_
  refine WL_val gd0 ((o_assign (v := .int .u32 0) rfl) _) rfl ?_
  refine WL_nil ?_
  refine nrm ?_
  refine WC_seq ?_
  refine WC_region ?_
  refine WL_val gd0 ((o_move (v := .slice b_a1 b_n2 b_c3) (by exact e0)) _) rfl ?_
  refine WL_call gd0 (o_call Try.call16 (argCons rfl (argCons rfl argNil)) _) rfl (h.mono ?_)
  rintro _ w5 ⟨t6, rfl, h⟩
  refine WL_val gd0 ((o_assign (v := .int .u32 t6) rfl) _) rfl ?_
  refine WL_nil ?_
  refine nrm ?_
  refine WC_ret ?_
  refine rtE ?_
  exact gv1 rfl rfl h

def F15_b2 (t11 : Int) (c22 : Int) (t27 : Int) (w28 : World) (nx28 : Int → Int → World → Prop) (nx12 : Int → Int → World → Prop) : Prop :=
  if t27 < 8 then
  if (band .u32 c22 1) = 1 then
    nx28 (bxor .u32 (shr .u32 c22 1) 2197175160) (IntKind.i64.wrap (t27 + 1)) w28
  else
    nx28 (shr .u32 c22 1) (IntKind.i64.wrap (t27 + 1)) w28
else
  nx12 c22 (IntKind.i64.wrap (t11 + 1)) w28
def F15_b1 (b_n3 : Nat) (b_a2 : Option Addr) (c7 : Int) (t11 : Int) (w12 : World) (nx12 : Int → Int → World → Prop) (k : Value → World → Prop) : Prop :=
  if t11 < (b_n3 : Int) then
  ∃ (p17 : Addr), b_a2 = some p17 ∧ (0 : Int) ≤ t11 ∧ t11 < (b_n3 : Int) ∧ ∃ (x19 : Int), w12.cell? (p17.add t11.toNat) = some (.int .u8 x19) ∧ LoopP (fun (s : Int × Int) w' nx' => F15_b2 t11 (s.1) (s.2) w' (fun x0 x1 w => nx' (x0, x1) w) nx12) ((bxor .u32 c7 (IntKind.u32.wrap x19)), 0) w12
else
  k (.int .u32 (bxor .u32 (if IntKind.u32.signed = true then -1 else IntKind.u32.max) c7)) w12
/-- spacecraft crc.Update32 -/
def F15 (c1 : Int) (b_a2 : Option Addr) (b_n3 : Nat) (b_c4 : Nat) (w5 : World) (k : Value → World → Prop) : Prop :=
  LoopP (fun (s : Int × Int) w' nx' => F15_b1 b_n3 b_a2 (s.1) (s.2) w' (fun x0 x1 w => nx' (x0, x1) w) k) ((bxor .u32 (if IntKind.u32.signed = true then -1 else IntKind.u32.max) c1), 0) w5
set_option maxRecDepth 100000 in
set_option maxHeartbeats 2000000 in
theorem w15 (c1 : Int) (b_a2 : Option Addr) (b_n3 : Nat) (b_c4 : Nat) (w5 : World) (k : Value → World → Prop) (h : F15 c1 b_a2 b_n3 b_c4 w5 k) : Does Try.prog 15 #[.int .u32 c1, .slice b_a2 b_n3 b_c4] w5 k := by
  refine enter 35 Try.func15 rfl rfl rfl ?_
  intro ρ hρ
  have e0 := hρ 0 _ rfl
  have e1 := hρ 1 _ rfl
  unfold F15 at h
  refine WC_seq ?_
  refine WC_region ?_
  refine WL_val gd0 ((o_assign (v := .int .u32 0) rfl) _) rfl ?_
  refine WL_nil ?_
  refine nrm ?_
  refine WC_seq ?_
  refine WC_region ?_
  refine WL_val gd0 ((o_move (v := .int .u32 c1) (by exact e0)) _) rfl ?_
  refine WL_val gd0 ((o_com rfl) _) rfl ?_
  refine WL_val gd0 ((o_assign (v := .int .u32 (bxor .u32 (if IntKind.u32.signed = true then -1 else IntKind.u32.max) c1)) rfl) _) rfl ?_
  refine WL_nil ?_
  refine nrm ?_
  refine WC_seq ?_
  refine WC_seq ?_
  refine WC_region ?_
  refine WL_val gd0 ((o_move (v := .slice b_a2 b_n3 b_c4) (by exact e1)) _) rfl ?_
  refine WL_val gd0 ((o_len Try.underlying22 rfl) _) rfl ?_
  refine WL_val gd0 ((o_move (v := .int .i64 0) rfl) _) rfl ?_
  refine WL_nil ?_
  refine nrm ?_
  refine WC_block ?_
  obtain ⟨J12, ⟨n12, h0⟩, hr12⟩ := h
  refine WC_loop (fun n ρ w' => ∃ (c7 t11 : Int), ρ 0 = .int .u32 c7 ∧ ρ 11 = .int .i64 t11 ∧ ρ 1 = .slice b_a2 b_n3 b_c4 ∧ ρ 10 = .int .i64 (b_n3 : Int) ∧ J12 n (c7, t11) w') ⟨n12, _, _, rfl, rfl, e1, rfl, h0⟩ ?_
  rintro n12 ρ w12 ⟨c7, t11, e0_6, e11_10, e1_8, e10_9, h⟩
  have h : F15_b1 b_n3 b_a2 c7 t11 w12 (fun x0 x1 w => ∃ m, m < n12 ∧ J12 m (x0, x1) w) k := hr12 n12 (c7, t11) w12 h
  unfold F15_b1 at h
  refine WC_seq ?_
  refine WC_region ?_
  refine WL_val gd0 ((o_lss (by exact e11_10) (by exact e10_9)) _) rfl ?_
  refine WL_nil ?_
  refine nrm ?_
  refine WC_seq ?_
  refine WC_cond (t := (decide (t11 < (b_n3 : Int)))) rfl (fun hb14 => ?_) (fun hb14 => ?_)
  · rw [if_pos (of_decide_eq_true hb14)] at h
    refine WC_skip ?_
    refine nrm ?_
    refine WC_seq ?_
    refine WC_block ?_
    refine WC_seq ?_
    refine WC_region ?_
    refine WL_val gd0 ((o_move (v := .int .i64 t11) (by exact e11_10)) _) rfl ?_
    refine WL_val gd0 ((o_assign (v := .int .i64 t11) rfl) _) rfl ?_
    refine WL_nil ?_
    refine nrm ?_
    refine WC_seq ?_
    refine WC_region ?_
    refine WL_val gd0 ((o_move (v := .int .u32 c7) (by exact e0_6)) _) rfl ?_
    refine WL_val gd0 ((o_move (v := .slice b_a2 b_n3 b_c4) (by exact e1_8)) _) rfl ?_
    refine WL_val gd0 ((o_move (v := .int .i64 t11) rfl) _) rfl ?_
    obtain ⟨p17, q18, h⟩ := h
    obtain ⟨l15, u16, h⟩ := h
    refine WL_val gd0 ((o_indexAddr1 Try.underlying22 Try.sizeOf5 (by exact (congrArg (fun z => Value.slice z b_n3 b_c4) q18)) rfl l15 u16) _) rfl ?_
    obtain ⟨x19, hc20, h⟩ := h
    refine WL_val gd0 (o_load Try.isAgg5 rfl hc20) rfl ?_
    refine WL_val gd0 ((o_conv Try.underlying5 Try.underlying24 rfl) _) rfl ?_
    refine WL_val gd0 ((o_xor rfl rfl) _) rfl ?_
    refine WL_val gd0 ((o_assign (v := .int .u32 (bxor .u32 c7 (IntKind.u32.wrap x19))) rfl) _) rfl ?_
    refine WL_nil ?_
    refine nrm ?_
    refine WC_seq ?_
    refine WC_region ?_
    refine WL_val gd0 ((o_move (v := .int .i64 0) rfl) _) rfl ?_
    refine WL_nil ?_
    refine nrm ?_
    refine WC_block ?_
    obtain ⟨J28, ⟨n28, h0⟩, hr28⟩ := h
    refine WC_loop (fun n ρ w' => ∃ (c22 t27 : Int), ρ 0 = .int .u32 c22 ∧ ρ 21 = .int .i64 t27 ∧ ρ 1 = .slice b_a2 b_n3 b_c4 ∧ ρ 10 = .int .i64 (b_n3 : Int) ∧ ρ 11 = .int .i64 t11 ∧ J28 n (c22, t27) w') ⟨n28, _, _, rfl, rfl, e1_8, e10_9, e11_10, h0⟩ ?_
    rintro n28 ρ w28 ⟨c22, t27, e0_21, e21_26, e1_23, e10_24, e11_25, h⟩
    have h : F15_b2 t11 c22 t27 w28 (fun x0 x1 w => ∃ m, m < n28 ∧ J28 m (x0, x1) w) (fun x0 x1 w => ∃ m, m < n12 ∧ J12 m (x0, x1) w) := hr28 n28 (c22, t27) w28 h
    unfold F15_b2 at h
    refine WC_seq ?_
    refine WC_region ?_
    refine WL_val gd0 ((o_lss (by exact e21_26) rfl) _) rfl ?_
    refine WL_nil ?_
    refine nrm ?_
    refine WC_seq ?_
    refine WC_cond (t := (decide (t27 < 8))) rfl (fun hb30 => ?_) (fun hb30 => ?_)
    · rw [if_pos (of_decide_eq_true hb30)] at h
      refine WC_skip ?_
      refine nrm ?_
      refine WC_seq ?_
      refine WC_block ?_
      refine WC_seq ?_
      refine WC_region ?_
      refine WL_val gd0 ((o_move (v := .int .u32 c22) (by exact e0_21)) _) rfl ?_
      refine WL_val gd0 ((o_and rfl rfl) _) rfl ?_
      refine WL_val gd0 ((o_assign (v := .int .u32 (band .u32 c22 1)) rfl) _) rfl ?_
      refine WL_nil ?_
      refine nrm ?_
      refine WC_seq ?_
      refine WC_region ?_
      refine WL_val gd0 ((o_move (v := .int .u32 c22) (by exact e0_21)) _) rfl ?_
      refine WL_val gd0 ((o_shr rfl rfl (by decide)) _) rfl ?_
      refine WL_val gd0 ((o_assign (v := .int .u32 (shr .u32 c22 1)) rfl) _) rfl ?_
      refine WL_nil ?_
      refine nrm ?_
      refine WC_seq ?_
      refine WC_region ?_
      refine WL_val gd0 ((o_move (v := .int .u32 (band .u32 c22 1)) rfl) _) rfl ?_
      refine WL_val gd0 ((o_eql rfl rfl) _) rfl ?_
      refine WL_nil ?_
      refine nrm ?_
      refine WC_cond (t := (decide ((band .u32 c22 1) = 1))) rfl (fun hb31 => ?_) (fun hb31 => ?_)
      · rw [if_pos (of_decide_eq_true hb31)] at h
        refine WC_region ?_
        refine WL_val gd0 ((o_move (v := .int .u32 (shr .u32 c22 1)) rfl) _) rfl ?_
        refine WL_val gd0 ((o_xor rfl rfl) _) rfl ?_
        refine WL_val gd0 ((o_assign (v := .int .u32 (bxor .u32 (shr .u32 c22 1) 2197175160)) rfl) _) rfl ?_
        refine WL_nil ?_
        refine nrmB ?_
        refine nrm ?_
        refine WC_region ?_
        refine WL_val gd0 ((o_add (by exact e21_26) rfl) _) rfl ?_
        refine WL_val gd0 ((o_move (v := .int .i64 (IntKind.i64.wrap (t27 + 1))) rfl) _) rfl ?_
        refine WL_nil ?_
        refine nrm ?_
        obtain ⟨m29, hm29, h⟩ := h
        exact ⟨m29, hm29, _, _, rfl, rfl, e1_23, e10_24, e11_25, h⟩
      · rw [if_neg (of_decide_eq_false hb31)] at h
        refine WC_skip ?_
        refine nrmB ?_
        refine nrm ?_
        refine WC_region ?_
        refine WL_val gd0 ((o_add (by exact e21_26) rfl) _) rfl ?_
        refine WL_val gd0 ((o_move (v := .int .i64 (IntKind.i64.wrap (t27 + 1))) rfl) _) rfl ?_
        refine WL_nil ?_
        refine nrm ?_
        obtain ⟨m29, hm29, h⟩ := h
        exact ⟨m29, hm29, _, _, rfl, rfl, e1_23, e10_24, e11_25, h⟩
    · rw [if_neg (of_decide_eq_false hb30)] at h
      refine WC_exit ?_
      refine exT ?_
      refine exT ?_
      refine exB ?_
      refine nrmB ?_
      refine nrm ?_
      refine WC_region ?_
      refine WL_val gd0 ((o_add (by exact e11_25) rfl) _) rfl ?_
      refine WL_val gd0 ((o_move (v := .int .i64 (IntKind.i64.wrap (t11 + 1))) rfl) _) rfl ?_
      refine WL_nil ?_
      refine nrm ?_
      obtain ⟨m13, hm13, h⟩ := h
      exact ⟨m13, hm13, _, _, e0_21, rfl, e1_23, e10_24, h⟩
  · rw [if_neg (of_decide_eq_false hb14)] at h
    refine WC_exit ?_
    refine exT ?_
    refine exT ?_
    refine exB ?_
    refine nrm ?_
    refine WC_seq ?_
    refine WC_region ?_
    refine WL_val gd0 ((o_move (v := .int .u32 c7) (by exact e0_6)) _) rfl ?_
    refine WL_val gd0 ((o_com rfl) _) rfl ?_
    refine WL_val gd0 ((o_assign (v := .int .u32 (bxor .u32 (if IntKind.u32.signed = true then -1 else IntKind.u32.max) c7)) rfl) _) rfl ?_
    refine WL_nil ?_
    refine nrm ?_
    refine WC_ret ?_
    refine rtE ?_
    exact gv1 rfl rfl h

def F16_b2 (b_a2 : Option Addr) (i10 : Int) (b_n3 : Nat) (r16 : Int) (k19 : Int) (w20 : World) (nx20 : Int → Int → World → Prop) (nx11 : Int → Int → World → Prop) : Prop :=
  if k19 < 8 then
  ∃ (p25 : Addr), b_a2 = some p25 ∧ (0 : Int) ≤ i10 ∧ i10 < (b_n3 : Int) ∧ ∃ (x27 : Int), w20.cell? (p25.add i10.toNat) = some (.int .u8 x27) ∧ (0 : Int) ≤ k19 ∧ if (Int.tmod (IntKind.i64.wrap (r16 + (shr .i64 (IntKind.i64.wrap x27) k19))) 2) = 1 then
    nx20 (bxor .i64 (IntKind.i64.wrap (Int.tdiv r16 2)) 2197175160) (IntKind.i64.wrap (k19 + 1)) w20
  else
    nx20 (IntKind.i64.wrap (Int.tdiv r16 2)) (IntKind.i64.wrap (k19 + 1)) w20
else
  nx11 r16 (IntKind.i64.wrap (i10 + 1)) w20
def F16_b1 (b_n3 : Nat) (b_a2 : Option Addr) (r8 : Int) (i10 : Int) (w11 : World) (nx11 : Int → Int → World → Prop) (k : Value → World → Prop) : Prop :=
  if i10 < (b_n3 : Int) then
  LoopP (fun (s : Int × Int) w' nx' => F16_b2 b_a2 i10 b_n3 (s.1) (s.2) w' (fun x0 x1 w => nx' (x0, x1) w) nx11) (r8, 0) w11
else
  k (.int .u32 (bxor .u32 (if IntKind.u32.signed = true then -1 else IntKind.u32.max) (IntKind.u32.wrap r8))) w11
/-- spacecraft spacecraftref01.Update32 -/
def F16 (c1 : Int) (b_a2 : Option Addr) (b_n3 : Nat) (b_c4 : Nat) (w5 : World) (k : Value → World → Prop) : Prop :=
  LoopP (fun (s : Int × Int) w' nx' => F16_b1 b_n3 b_a2 (s.1) (s.2) w' (fun x0 x1 w => nx' (x0, x1) w) k) ((IntKind.i64.wrap (bxor .u32 (if IntKind.u32.signed = true then -1 else IntKind.u32.max) c1)), 0) w5
set_option maxRecDepth 100000 in
set_option maxHeartbeats 2000000 in
theorem w16 (c1 : Int) (b_a2 : Option Addr) (b_n3 : Nat) (b_c4 : Nat) (w5 : World) (k : Value → World → Prop) (h : F16 c1 b_a2 b_n3 b_c4 w5 k) : Does Try.prog 16 #[.int .u32 c1, .slice b_a2 b_n3 b_c4] w5 k := by
  refine enter 41 Try.func16 rfl rfl rfl ?_
  intro ρ hρ
  have e0 := hρ 0 _ rfl
  have e1 := hρ 1 _ rfl
  unfold F16 at h
  refine WC_seq ?_
  refine WC_region ?_
  refine WL_val gd0 ((o_assign (v := .int .u32 0) rfl) _) rfl ?_
  refine WL_nil ?_
  refine nrm ?_
  refine WC_seq ?_
  refine WC_region ?_
  refine WL_val gd0 ((o_move (v := .int .u32 c1) (by exact e0)) _) rfl ?_
  refine WL_val gd0 ((o_com rfl) _) rfl ?_
  refine WL_val gd0 ((o_conv Try.underlying24 Try.underlying3 rfl) _) rfl ?_
  refine WL_val gd0 ((o_assign (v := .int .i64 (IntKind.i64.wrap (bxor .u32 (if IntKind.u32.signed = true then -1 else IntKind.u32.max) c1))) rfl) _) rfl ?_
  refine WL_nil ?_
  refine nrm ?_
  refine WC_seq ?_
  refine WC_seq ?_
  refine WC_region ?_
  refine WL_val gd0 ((o_assign (v := .int .i64 0) rfl) _) rfl ?_
  refine WL_nil ?_
  refine nrm ?_
  refine WC_block ?_
  obtain ⟨J11, ⟨n11, h0⟩, hr11⟩ := h
  refine WC_loop (fun n ρ w' => ∃ (r8 i10 : Int), ρ 5 = .int .i64 r8 ∧ ρ 6 = .int .i64 i10 ∧ ρ 1 = .slice b_a2 b_n3 b_c4 ∧ J11 n (r8, i10) w') ⟨n11, _, _, rfl, rfl, e1, h0⟩ ?_
  rintro n11 ρ w11 ⟨r8, i10, e5_7, e6_9, e1_6, h⟩
  have h : F16_b1 b_n3 b_a2 r8 i10 w11 (fun x0 x1 w => ∃ m, m < n11 ∧ J11 m (x0, x1) w) k := hr11 n11 (r8, i10) w11 h
  unfold F16_b1 at h
  refine WC_seq ?_
  refine WC_seq ?_
  refine WC_region ?_
  refine WL_val gd0 ((o_move (v := .int .i64 i10) (by exact e6_9)) _) rfl ?_
  refine WL_val gd0 ((o_move (v := .slice b_a2 b_n3 b_c4) (by exact e1_6)) _) rfl ?_
  refine WL_val gd0 ((o_len Try.underlying22 rfl) _) rfl ?_
  refine WL_val gd0 ((o_lss rfl rfl) _) rfl ?_
  refine WL_nil ?_
  refine nrm ?_
  refine WC_cond (t := (decide (i10 < (b_n3 : Int)))) rfl (fun hb13 => ?_) (fun hb13 => ?_)
  · rw [if_pos (of_decide_eq_true hb13)] at h
    refine WC_skip ?_
    refine nrm ?_
    refine WC_seq ?_
    refine WC_block ?_
    refine WC_seq ?_
    refine WC_region ?_
    refine WL_val gd0 ((o_assign (v := .int .i64 0) rfl) _) rfl ?_
    refine WL_nil ?_
    refine nrm ?_
    refine WC_block ?_
    obtain ⟨J20, ⟨n20, h0⟩, hr20⟩ := h
    refine WC_loop (fun n ρ w' => ∃ (r16 k19 : Int), ρ 5 = .int .i64 r16 ∧ ρ 7 = .int .i64 k19 ∧ ρ 1 = .slice b_a2 b_n3 b_c4 ∧ ρ 6 = .int .i64 i10 ∧ J20 n (r16, k19) w') ⟨n20, _, _, e5_7, rfl, e1_6, e6_9, h0⟩ ?_
    rintro n20 ρ w20 ⟨r16, k19, e5_15, e7_18, e1_14, e6_17, h⟩
    have h : F16_b2 b_a2 i10 b_n3 r16 k19 w20 (fun x0 x1 w => ∃ m, m < n20 ∧ J20 m (x0, x1) w) (fun x0 x1 w => ∃ m, m < n11 ∧ J11 m (x0, x1) w) := hr20 n20 (r16, k19) w20 h
    unfold F16_b2 at h
    refine WC_seq ?_
    refine WC_seq ?_
    refine WC_region ?_
    refine WL_val gd0 ((o_move (v := .int .i64 k19) (by exact e7_18)) _) rfl ?_
    refine WL_val gd0 ((o_lss rfl rfl) _) rfl ?_
    refine WL_nil ?_
    refine nrm ?_
    refine WC_cond (t := (decide (k19 < 8))) rfl (fun hb22 => ?_) (fun hb22 => ?_)
    · rw [if_pos (of_decide_eq_true hb22)] at h
      refine WC_skip ?_
      refine nrm ?_
      refine WC_seq ?_
      refine WC_block ?_
      refine WC_seq ?_
      refine WC_region ?_
      refine WL_val gd0 ((o_move (v := .int .i64 r16) (by exact e5_15)) _) rfl ?_
      refine WL_val gd0 ((o_move (v := .slice b_a2 b_n3 b_c4) (by exact e1_14)) _) rfl ?_
      refine WL_val gd0 ((o_move (v := .int .i64 i10) (by exact e6_17)) _) rfl ?_
      obtain ⟨p25, q26, h⟩ := h
      obtain ⟨l23, u24, h⟩ := h
      refine WL_val gd0 ((o_indexAddr1 Try.underlying22 Try.sizeOf5 (by exact (congrArg (fun z => Value.slice z b_n3 b_c4) q26)) rfl l23 u24) _) rfl ?_
      obtain ⟨x27, hc28, h⟩ := h
      refine WL_val gd0 (o_load Try.isAgg5 rfl hc28) rfl ?_
      refine WL_val gd0 ((o_conv Try.underlying5 Try.underlying3 rfl) _) rfl ?_
      refine WL_val gd0 ((o_move (v := .int .i64 k19) (by exact e7_18)) _) rfl ?_
      obtain ⟨c29, h⟩ := h
      refine WL_val gd0 ((o_shr rfl rfl c29) _) rfl ?_
      refine WL_val gd0 ((o_add rfl rfl) _) rfl ?_
      refine WL_val gd0 ((fun w => o_rem rfl rfl w (by decide)) _) rfl ?_
      refine WL_val gd0 ((o_eql rfl rfl) _) rfl ?_
      refine WL_val gd0 ((o_assign (v := .bool (decide ((Int.tmod (IntKind.i64.wrap (r16 + (shr .i64 (IntKind.i64.wrap x27) k19))) 2) = 1))) rfl) _) rfl ?_
      refine WL_nil ?_
      refine nrm ?_
      refine WC_seq ?_
      refine WC_region ?_
      refine WL_val gd0 ((o_move (v := .int .i64 r16) (by exact e5_15)) _) rfl ?_
      refine WL_val gd0 ((fun w => o_quo rfl rfl w (by decide)) _) rfl ?_
      refine WL_val gd0 ((o_assign (v := .int .i64 (IntKind.i64.wrap (Int.tdiv r16 2))) rfl) _) rfl ?_
      refine WL_nil ?_
      refine nrm ?_
      refine WC_seq ?_
      refine WC_region ?_
      refine WL_val gd0 ((o_move (v := .bool (decide ((Int.tmod (IntKind.i64.wrap (r16 + (shr .i64 (IntKind.i64.wrap x27) k19))) 2) = 1))) rfl) _) rfl ?_
      refine WL_nil ?_
      refine nrm ?_
      refine WC_cond (t := (decide ((Int.tmod (IntKind.i64.wrap (r16 + (shr .i64 (IntKind.i64.wrap x27) k19))) 2) = 1))) rfl (fun hb30 => ?_) (fun hb30 => ?_)
      · rw [if_pos (of_decide_eq_true hb30)] at h
        refine WC_region ?_
        refine WL_val gd0 ((o_move (v := .int .i64 (IntKind.i64.wrap (Int.tdiv r16 2))) rfl) _) rfl ?_
        refine WL_val gd0 ((o_xor rfl rfl) _) rfl ?_
        refine WL_val gd0 ((o_assign (v := .int .i64 (bxor .i64 (IntKind.i64.wrap (Int.tdiv r16 2)) 2197175160)) rfl) _) rfl ?_
        refine WL_nil ?_
        refine nrmB ?_
        refine nrm ?_
        refine WC_region ?_
        refine WL_val gd0 ((o_move (v := .int .i64 k19) (by exact e7_18)) _) rfl ?_
        refine WL_val gd0 ((o_add rfl rfl) _) rfl ?_
        refine WL_val gd0 ((o_assign (v := .int .i64 (IntKind.i64.wrap (k19 + 1))) rfl) _) rfl ?_
        refine WL_nil ?_
        refine nrm ?_
        obtain ⟨m21, hm21, h⟩ := h
        exact ⟨m21, hm21, _, _, rfl, rfl, e1_14, e6_17, h⟩
      · rw [if_neg (of_decide_eq_false hb30)] at h
        refine WC_skip ?_
        refine nrmB ?_
        refine nrm ?_
        refine WC_region ?_
        refine WL_val gd0 ((o_move (v := .int .i64 k19) (by exact e7_18)) _) rfl ?_
        refine WL_val gd0 ((o_add rfl rfl) _) rfl ?_
        refine WL_val gd0 ((o_assign (v := .int .i64 (IntKind.i64.wrap (k19 + 1))) rfl) _) rfl ?_
        refine WL_nil ?_
        refine nrm ?_
        obtain ⟨m21, hm21, h⟩ := h
        exact ⟨m21, hm21, _, _, rfl, rfl, e1_14, e6_17, h⟩
    · rw [if_neg (of_decide_eq_false hb22)] at h
      refine WC_exit ?_
      refine exT ?_
      refine exT ?_
      refine exB ?_
      refine nrmB ?_
      refine nrm ?_
      refine WC_region ?_
      refine WL_val gd0 ((o_move (v := .int .i64 i10) (by exact e6_17)) _) rfl ?_
      refine WL_val gd0 ((o_add rfl rfl) _) rfl ?_
      refine WL_val gd0 ((o_assign (v := .int .i64 (IntKind.i64.wrap (i10 + 1))) rfl) _) rfl ?_
      refine WL_nil ?_
      refine nrm ?_
      obtain ⟨m12, hm12, h⟩ := h
      exact ⟨m12, hm12, _, _, e5_15, rfl, e1_14, h⟩
  · rw [if_neg (of_decide_eq_false hb13)] at h
    refine WC_exit ?_
    refine exT ?_
    refine exT ?_
    refine exB ?_
    refine nrm ?_
    refine WC_seq ?_
    refine WC_region ?_
    refine WL_val gd0 ((o_move (v := .int .i64 r8) (by exact e5_7)) _) rfl ?_
    refine WL_val gd0 ((o_conv Try.underlying3 Try.underlying24 rfl) _) rfl ?_
    refine WL_val gd0 ((o_com rfl) _) rfl ?_
    refine WL_val gd0 ((o_assign (v := .int .u32 (bxor .u32 (if IntKind.u32.signed = true then -1 else IntKind.u32.max) (IntKind.u32.wrap r8))) rfl) _) rfl ?_
    refine WL_nil ?_
    refine nrm ?_
    refine WC_ret ?_
    refine rtE ?_
    exact gv1 rfl rfl h

/-- spacecraft crc.Append16 -/
def F17 (b_a1 : Option Addr) (b_n2 : Nat) (b_c3 : Nat) (w4 : World) (k : Value → World → Prop) : Prop :=
  Does Try.prog 9 #[.slice b_a1 b_n2 b_c3] w4 (fun v w5 => ∃ (s6 : Int), v = .int .u16 s6 ∧ Does Try.prog 23 #[.slice b_a1 b_n2 b_c3] w5 (fun v w7 => ∃ (x_a8 : Option Addr) (x_n9 x_c10 : Nat), v = .slice x_a8 x_n9 x_c10 ∧ New w7 5 [.int .u8 (IntKind.u8.wrap (shr .u16 s6 8)), .int .u8 (IntKind.u8.wrap s6)] (fun p11 w12 => ∃ (b_a13 : Option Addr) (b_n14 b_c15 : Nat) (w16 : World), (Builtin.append_ #[22, 22] 22 #[.slice x_a8 x_n9 x_c10, .slice (some p11) 2 2]).run Try.prog w12 = .ok (.slice b_a13 b_n14 b_c15) w16 ∧ k (.slice b_a13 b_n14 b_c15) w16)))
set_option maxRecDepth 100000 in
set_option maxHeartbeats 2000000 in
theorem w17 (b_a1 : Option Addr) (b_n2 : Nat) (b_c3 : Nat) (w4 : World) (k : Value → World → Prop) (h : F17 b_a1 b_n2 b_c3 w4 k) : Does Try.prog 17 #[.slice b_a1 b_n2 b_c3] w4 k := by
  refine enter 15 Try.func17 rfl rfl rfl ?_
  intro ρ hρ
  have e0 := hρ 0 _ rfl
  unfold F17 at h
  refine WC_seq ?_
  refine WC_region ?_
  refine WL_val gd0 ((o_assign (v := .slice none 0 0) rfl) _) rfl ?_
  refine WL_nil ?_
  refine nrm ?_
  refine WC_seq ?_
  refine WC_region ?_
  refine WL_val gd0 ((o_move (v := .slice b_a1 b_n2 b_c3) (by exact e0)) _) rfl ?_
  refine WL_call gd0 (o_call Try.call9 (argCons rfl argNil) _) rfl (h.mono ?_)
  rintro _ w5 ⟨s6, rfl, h⟩
  refine WL_val gd0 ((o_assign (v := .int .u16 s6) rfl) _) rfl ?_
  refine WL_nil ?_
  refine nrm ?_
  refine WC_seq ?_
  refine WC_region ?_
  refine WL_val gd0 ((o_move (v := .slice b_a1 b_n2 b_c3) (by exact e0)) _) rfl ?_
  refine WL_call gd0 (o_call Try.call23 (argCons rfl argNil) _) rfl (h.mono ?_)
  rintro _ w7 ⟨x_a8, x_n9, x_c10, rfl, h⟩
  refine WL_val gd0 ((o_move (v := .int .u16 s6) rfl) _) rfl ?_
  refine WL_val gd0 ((o_shr rfl rfl (by decide)) _) rfl ?_
  refine WL_val gd0 ((o_conv Try.underlying23 Try.underlying5 rfl) _) rfl ?_
  refine WL_val gd0 ((o_move (v := .int .u16 s6) rfl) _) rfl ?_
  refine WL_val gd0 ((o_conv Try.underlying23 Try.underlying5 rfl) _) rfl ?_
  have h := New.out h
  refine WL_val gd0 (o_buildSlice (e := 5) (ps := [(0, .int .u8 (IntKind.u8.wrap (shr .u16 s6 8))), (1, .int .u8 (IntKind.u8.wrap s6))]) (cs := [.int .u8 (IntKind.u8.wrap (shr .u16 s6 8)), .int .u8 (IntKind.u8.wrap s6)]) (partCons rfl (partCons rfl partNil)) (fun w => by kernel_rfl)) rfl ?_
  generalize hp11 : fresh w7 = p11 at h ⊢
  generalize hw12 : push w7 5 [.int .u8 (IntKind.u8.wrap (shr .u16 s6 8)), .int .u8 (IntKind.u8.wrap s6)] = w12 at h ⊢
  try dsimp only at h
  obtain ⟨b_a13, b_n14, b_c15, w16, r17, h⟩ := h
  refine WL_val gd0 (o_append rfl rfl r17) rfl ?_
  refine WL_val gd0 ((o_assign (v := .slice b_a13 b_n14 b_c15) rfl) _) rfl ?_
  refine WL_nil ?_
  refine nrm ?_
  refine WC_ret ?_
  refine rtE ?_
  exact gv1 rfl rfl h

/-- spacecraft spacecraftref01.Append16 -/
def F18 (b_a1 : Option Addr) (b_n2 : Nat) (b_c3 : Nat) (w4 : World) (k : Value → World → Prop) : Prop :=
  Does Try.prog 10 #[.slice b_a1 b_n2 b_c3] w4 (fun v w5 => ∃ (s6 : Int), v = .int .u16 s6 ∧ New w5 5 [] (fun p7 w8 => ∃ (b_a9 : Option Addr) (b_n10 b_c11 : Nat) (w12 : World), (Builtin.append_ #[22, 22] 22 #[.slice (some p7) 0 0, .slice b_a1 b_n2 b_c3]).run Try.prog w8 = .ok (.slice b_a9 b_n10 b_c11) w12 ∧ New w12 5 [.int .u8 (IntKind.u8.wrap (IntKind.u16.wrap (Int.tdiv s6 256))), .int .u8 (IntKind.u8.wrap (Int.tmod s6 256))] (fun p14 w15 => ∃ (b_a16 : Option Addr) (b_n17 b_c18 : Nat) (w19 : World), (Builtin.append_ #[22, 22] 22 #[.slice b_a9 b_n10 b_c11, .slice (some p14) 2 2]).run Try.prog w15 = .ok (.slice b_a16 b_n17 b_c18) w19 ∧ k (.slice b_a16 b_n17 b_c18) w19)))
set_option maxRecDepth 100000 in
set_option maxHeartbeats 2000000 in
theorem w18 (b_a1 : Option Addr) (b_n2 : Nat) (b_c3 : Nat) (w4 : World) (k : Value → World → Prop) (h : F18 b_a1 b_n2 b_c3 w4 k) : Does Try.prog 18 #[.slice b_a1 b_n2 b_c3] w4 k := by
  refine enter 17 Try.func18 rfl rfl rfl ?_
  intro ρ hρ
  have e0 := hρ 0 _ rfl
  unfold F18 at h
  refine WC_seq ?_
  refine WC_region ?_
  refine WL_val gd0 ((o_assign (v := .slice none 0 0) rfl) _) rfl ?_
  refine WL_nil ?_
  refine nrm ?_
  refine WC_seq ?_
  refine WC_region ?_
  refine WL_val gd0 ((o_move (v := .slice b_a1 b_n2 b_c3) (by exact e0)) _) rfl ?_
  refine WL_call gd0 (o_call Try.call10 (argCons rfl argNil) _) rfl (h.mono ?_)
  rintro _ w5 ⟨s6, rfl, h⟩
  refine WL_val gd0 ((o_assign (v := .int .u16 s6) rfl) _) rfl ?_
  refine WL_nil ?_
  refine nrm ?_
  refine WC_seq ?_
  refine WC_region ?_
  have h := New.out h
  refine WL_val gd0 (o_buildSlice (e := 5) (ps := []) (cs := []) partNil (fun w => by kernel_rfl)) rfl ?_
  generalize hp7 : fresh w5 = p7 at h ⊢
  generalize hw8 : push w5 5 [] = w8 at h ⊢
  try dsimp only at h
  refine WL_val gd0 ((o_move (v := .slice b_a1 b_n2 b_c3) (by exact e0)) _) rfl ?_
  obtain ⟨b_a9, b_n10, b_c11, w12, r13, h⟩ := h
  refine WL_val gd0 (o_append rfl rfl r13) rfl ?_
  refine WL_val gd0 ((o_move (v := .int .u16 s6) rfl) _) rfl ?_
  refine WL_val gd0 ((fun w => o_quo rfl rfl w (by decide)) _) rfl ?_
  refine WL_val gd0 ((o_conv Try.underlying23 Try.underlying5 rfl) _) rfl ?_
  refine WL_val gd0 ((o_move (v := .int .u16 s6) rfl) _) rfl ?_
  refine WL_val gd0 ((fun w => o_rem rfl rfl w (by decide)) _) rfl ?_
  refine WL_val gd0 ((o_conv Try.underlying23 Try.underlying5 rfl) _) rfl ?_
  have h := New.out h
  refine WL_val gd0 (o_buildSlice (e := 5) (ps := [(0, .int .u8 (IntKind.u8.wrap (IntKind.u16.wrap (Int.tdiv s6 256)))), (1, .int .u8 (IntKind.u8.wrap (Int.tmod s6 256)))]) (cs := [.int .u8 (IntKind.u8.wrap (IntKind.u16.wrap (Int.tdiv s6 256))), .int .u8 (IntKind.u8.wrap (Int.tmod s6 256))]) (partCons rfl (partCons rfl partNil)) (fun w => by kernel_rfl)) rfl ?_
  generalize hp14 : fresh w12 = p14 at h ⊢
  generalize hw15 : push w12 5 [.int .u8 (IntKind.u8.wrap (IntKind.u16.wrap (Int.tdiv s6 256))), .int .u8 (IntKind.u8.wrap (Int.tmod s6 256))] = w15 at h ⊢
  try dsimp only at h
  obtain ⟨b_a16, b_n17, b_c18, w19, r20, h⟩ := h
  refine WL_val gd0 (o_append rfl rfl r20) rfl ?_
  refine WL_val gd0 ((o_assign (v := .slice b_a16 b_n17 b_c18) rfl) _) rfl ?_
  refine WL_nil ?_
  refine nrm ?_
  refine WC_ret ?_
  refine rtE ?_
  exact gv1 rfl rfl h

/-- spacecraft crc.Check16 -/
def F19 (b_a1 : Option Addr) (b_n2 : Nat) (b_c3 : Nat) (w4 : World) (k : Value → World → Prop) : Prop :=
  if 0 ≤ (IntKind.i64.wrap ((b_n2 : Int) - 2)) then
  (0 : Int) ≤ IntKind.i64.wrap ((b_n2 : Int) - 2) ∧ IntKind.i64.wrap ((b_n2 : Int) - 2) ≤ (b_c3 : Int) ∧ ∃ (p10 : Addr), b_a1 = some p10 ∧ (0 : Int) ≤ IntKind.i64.wrap ((b_n2 : Int) - 2) ∧ IntKind.i64.wrap ((b_n2 : Int) - 2) < (b_n2 : Int) ∧ ∃ (x12 : Int), w4.drew.cell? (p10.add ((IntKind.i64.wrap ((b_n2 : Int) - 2)).toNat)) = some (.int .u8 x12) ∧ (0 : Int) ≤ IntKind.i64.wrap ((IntKind.i64.wrap ((b_n2 : Int) - 2)) + 1) ∧ IntKind.i64.wrap ((IntKind.i64.wrap ((b_n2 : Int) - 2)) + 1) < (b_n2 : Int) ∧ ∃ (x16 : Int), w4.drew.cell? (p10.add ((IntKind.i64.wrap ((IntKind.i64.wrap ((b_n2 : Int) - 2)) + 1)).toNat)) = some (.int .u8 x16) ∧ Does Try.prog 9 #[.slice b_a1 ((IntKind.i64.wrap ((b_n2 : Int) - 2)).toNat) b_c3] w4.drew (fun v w18 => ∃ (x19 : Int), v = .int .u16 x19 ∧ w18.cell? (p10.add ((IntKind.i64.wrap ((b_n2 : Int) - 2)).toNat)) = some (.int .u8 x12) ∧ w18.cell? (p10.add ((IntKind.i64.wrap ((IntKind.i64.wrap ((b_n2 : Int) - 2)) + 1)).toNat)) = some (.int .u8 x16) ∧ k (.bool (decide (x19 = (bor .u16 (shl .u16 (IntKind.u16.wrap x12) 8) (IntKind.u16.wrap x16))))) w18)
else
  k (.bool false) w4.drew
set_option maxRecDepth 100000 in
set_option maxHeartbeats 2000000 in
theorem w19 (b_a1 : Option Addr) (b_n2 : Nat) (b_c3 : Nat) (w4 : World) (k : Value → World → Prop) (h : F19 b_a1 b_n2 b_c3 w4 k) : Does Try.prog 19 #[.slice b_a1 b_n2 b_c3] w4 k := by
  refine enter 29 Try.func19 rfl rfl rfl ?_
  intro ρ hρ
  have e0 := hρ 0 _ rfl
  unfold F19 at h
  refine WC_seq ?_
  refine WC_region ?_
  refine WL_val gd0 ((o_assign (v := .bool false) rfl) _) rfl ?_
  refine WL_nil ?_
  refine nrm ?_
  refine WC_seq ?_
  refine WC_region ?_
  refine WL_val gd0 ((o_move (v := .slice b_a1 b_n2 b_c3) (by exact e0)) _) rfl ?_
  refine WL_val gd0 ((o_len Try.underlying22 rfl) _) rfl ?_
  refine WL_val gd0 ((o_sub rfl rfl) _) rfl ?_
  refine WL_val gd0 ((o_assign (v := .int .i64 (IntKind.i64.wrap ((b_n2 : Int) - 2))) rfl) _) rfl ?_
  refine WL_nil ?_
  refine nrm ?_
  refine WC_seq ?_
  refine WC_draws [(0, true), (1, true), (2, true), (3, true), (4, true), (5, true), (7, true), (8, true), (9, true), (10, true), (11, true), (12, true), (13, true), (14, true), (15, true), (16, true), (17, true), (18, true), (19, true), (6, false), (20, true), (21, true), (22, true)] Try.mixed (by kernel_rfl) ?_
  refine WQ_val rfl gd0 (o_move (v := .int .i64 (IntKind.i64.wrap ((b_n2 : Int) - 2))) rfl) rfl ?_
  refine WQ_val rfl gd0 (o_geq rfl rfl) rfl ?_
  refine WQ_val rfl gd0 (o_move (v := .bool (decide (0 ≤ (IntKind.i64.wrap ((b_n2 : Int) - 2))))) rfl) rfl ?_
  refine bsplit (decide (0 ≤ (IntKind.i64.wrap ((b_n2 : Int) - 2)))) (fun hb5 => ?_) (fun hb5 => ?_)
  · rw [if_pos (of_decide_eq_true hb5)] at h
    refine WQ_val rfl (gdY (b := (decide (0 ≤ (IntKind.i64.wrap ((b_n2 : Int) - 2))))) 9 rfl rfl hb5) (o_move (v := .slice b_a1 b_n2 b_c3) (by exact e0)) rfl ?_
    refine WQ_val rfl (gdY (b := (decide (0 ≤ (IntKind.i64.wrap ((b_n2 : Int) - 2))))) 9 rfl rfl hb5) (o_move (v := .int .i64 (IntKind.i64.wrap ((b_n2 : Int) - 2))) rfl) rfl ?_
    obtain ⟨c6, c7, h⟩ := h
    refine WQ_val rfl (gdY (b := (decide (0 ≤ (IntKind.i64.wrap ((b_n2 : Int) - 2))))) 9 rfl rfl hb5) (o_sliceH Try.underlying22 Try.sizeOf5 rfl rfl c6 c7) rfl ?_
    refine WQ_val rfl (gdY (b := (decide (0 ≤ (IntKind.i64.wrap ((b_n2 : Int) - 2))))) 9 rfl rfl hb5) (o_move (v := .slice b_a1 b_n2 b_c3) (by exact e0)) rfl ?_
    refine WQ_val rfl (gdY (b := (decide (0 ≤ (IntKind.i64.wrap ((b_n2 : Int) - 2))))) 9 rfl rfl hb5) (o_move (v := .int .i64 (IntKind.i64.wrap ((b_n2 : Int) - 2))) rfl) rfl ?_
    obtain ⟨p10, q11, h⟩ := h
    obtain ⟨l8, u9, h⟩ := h
    refine WQ_val rfl (gdY (b := (decide (0 ≤ (IntKind.i64.wrap ((b_n2 : Int) - 2))))) 9 rfl rfl hb5) (o_indexAddr1 Try.underlying22 Try.sizeOf5 (by exact (congrArg (fun z => Value.slice z b_n2 b_c3) q11)) rfl l8 u9) rfl ?_
    obtain ⟨x12, hc13, h⟩ := h
    refine WQ_look (fun w => w.cell? (p10.add ((IntKind.i64.wrap ((b_n2 : Int) - 2)).toNat)) = some (.int .u8 x12)) rfl (gdY (b := (decide (0 ≤ (IntKind.i64.wrap ((b_n2 : Int) - 2))))) 9 rfl rfl hb5) (fun w hc => (o_load Try.isAgg5 rfl hc)) hc13 rfl ?_
    refine WQ_val rfl (gdY (b := (decide (0 ≤ (IntKind.i64.wrap ((b_n2 : Int) - 2))))) 9 rfl rfl hb5) (o_conv Try.underlying5 Try.underlying23 rfl) rfl ?_
    refine WQ_val rfl (gdY (b := (decide (0 ≤ (IntKind.i64.wrap ((b_n2 : Int) - 2))))) 9 rfl rfl hb5) (o_shl rfl rfl (by decide)) rfl ?_
    refine WQ_val rfl (gdY (b := (decide (0 ≤ (IntKind.i64.wrap ((b_n2 : Int) - 2))))) 9 rfl rfl hb5) (o_move (v := .slice b_a1 b_n2 b_c3) (by exact e0)) rfl ?_
    refine WQ_val rfl (gdY (b := (decide (0 ≤ (IntKind.i64.wrap ((b_n2 : Int) - 2))))) 9 rfl rfl hb5) (o_move (v := .int .i64 (IntKind.i64.wrap ((b_n2 : Int) - 2))) rfl) rfl ?_
    refine WQ_val rfl (gdY (b := (decide (0 ≤ (IntKind.i64.wrap ((b_n2 : Int) - 2))))) 9 rfl rfl hb5) (o_add rfl rfl) rfl ?_
    obtain ⟨l14, u15, h⟩ := h
    refine WQ_val rfl (gdY (b := (decide (0 ≤ (IntKind.i64.wrap ((b_n2 : Int) - 2))))) 9 rfl rfl hb5) (o_indexAddr1 Try.underlying22 Try.sizeOf5 (by exact (congrArg (fun z => Value.slice z b_n2 b_c3) q11)) rfl l14 u15) rfl ?_
    obtain ⟨x16, hc17, h⟩ := h
    refine WQ_look (fun w => w.cell? (p10.add ((IntKind.i64.wrap ((IntKind.i64.wrap ((b_n2 : Int) - 2)) + 1)).toNat)) = some (.int .u8 x16)) rfl (gdY (b := (decide (0 ≤ (IntKind.i64.wrap ((b_n2 : Int) - 2))))) 9 rfl rfl hb5) (fun w hc => (o_load Try.isAgg5 rfl hc)) hc17 rfl ?_
    refine WQ_val rfl (gdY (b := (decide (0 ≤ (IntKind.i64.wrap ((b_n2 : Int) - 2))))) 9 rfl rfl hb5) (o_conv Try.underlying5 Try.underlying23 rfl) rfl ?_
    refine WQ_val rfl (gdY (b := (decide (0 ≤ (IntKind.i64.wrap ((b_n2 : Int) - 2))))) 9 rfl rfl hb5) (o_or rfl rfl) rfl ?_
    refine WQ_call rfl (gdY (b := (decide (0 ≤ (IntKind.i64.wrap ((b_n2 : Int) - 2))))) 9 rfl rfl hb5) (o_call Try.call9 (argCons rfl argNil) _) rfl (h.mono ?_)
    rintro _ w18 ⟨x19, rfl, hh20, hh21, h⟩
    refine ⟨⟨⟨trivial, fun _ => hh20⟩, fun _ => hh21⟩, ?_⟩
    refine WQ_val rfl (gdY (b := (decide (0 ≤ (IntKind.i64.wrap ((b_n2 : Int) - 2))))) 9 rfl rfl hb5) (o_eql rfl rfl) rfl ?_
    refine WQ_val rfl gd0 (o_pickT (v := .bool (decide (x19 = (bor .u16 (shl .u16 (IntKind.u16.wrap x12) 8) (IntKind.u16.wrap x16))))) rfl hb5 rfl) rfl ?_
    refine WQ_val rfl gd0 (o_assign (v := .bool (decide (x19 = (bor .u16 (shl .u16 (IntKind.u16.wrap x12) 8) (IntKind.u16.wrap x16))))) rfl) rfl ?_
    refine WQ_nil ?_
    refine nrm ?_
    refine WC_ret ?_
    refine rtE ?_
    exact gv1 rfl rfl h
  · rw [if_neg (of_decide_eq_false hb5)] at h
    refine WQ_skip rfl (gdN (b := (decide (0 ≤ (IntKind.i64.wrap ((b_n2 : Int) - 2))))) 9 rfl rfl hb5) rfl ?_
    refine WQ_skip rfl (gdN (b := (decide (0 ≤ (IntKind.i64.wrap ((b_n2 : Int) - 2))))) 9 rfl rfl hb5) rfl ?_
    refine WQ_skip rfl (gdN (b := (decide (0 ≤ (IntKind.i64.wrap ((b_n2 : Int) - 2))))) 9 rfl rfl hb5) rfl ?_
    refine WQ_skip rfl (gdN (b := (decide (0 ≤ (IntKind.i64.wrap ((b_n2 : Int) - 2))))) 9 rfl rfl hb5) rfl ?_
    refine WQ_skip rfl (gdN (b := (decide (0 ≤ (IntKind.i64.wrap ((b_n2 : Int) - 2))))) 9 rfl rfl hb5) rfl ?_
    refine WQ_skip rfl (gdN (b := (decide (0 ≤ (IntKind.i64.wrap ((b_n2 : Int) - 2))))) 9 rfl rfl hb5) rfl ?_
    refine WQ_skip rfl (gdN (b := (decide (0 ≤ (IntKind.i64.wrap ((b_n2 : Int) - 2))))) 9 rfl rfl hb5) rfl ?_
    refine WQ_skip rfl (gdN (b := (decide (0 ≤ (IntKind.i64.wrap ((b_n2 : Int) - 2))))) 9 rfl rfl hb5) rfl ?_
    refine WQ_skip rfl (gdN (b := (decide (0 ≤ (IntKind.i64.wrap ((b_n2 : Int) - 2))))) 9 rfl rfl hb5) rfl ?_
    refine WQ_skip rfl (gdN (b := (decide (0 ≤ (IntKind.i64.wrap ((b_n2 : Int) - 2))))) 9 rfl rfl hb5) rfl ?_
    refine WQ_skip rfl (gdN (b := (decide (0 ≤ (IntKind.i64.wrap ((b_n2 : Int) - 2))))) 9 rfl rfl hb5) rfl ?_
    refine WQ_skip rfl (gdN (b := (decide (0 ≤ (IntKind.i64.wrap ((b_n2 : Int) - 2))))) 9 rfl rfl hb5) rfl ?_
    refine WQ_skip rfl (gdN (b := (decide (0 ≤ (IntKind.i64.wrap ((b_n2 : Int) - 2))))) 9 rfl rfl hb5) rfl ?_
    refine WQ_skip rfl (gdN (b := (decide (0 ≤ (IntKind.i64.wrap ((b_n2 : Int) - 2))))) 9 rfl rfl hb5) rfl ?_
    refine WQ_skip rfl (gdN (b := (decide (0 ≤ (IntKind.i64.wrap ((b_n2 : Int) - 2))))) 9 rfl rfl hb5) rfl ?_
    refine WQ_skip rfl (gdN (b := (decide (0 ≤ (IntKind.i64.wrap ((b_n2 : Int) - 2))))) 9 rfl rfl hb5) rfl ?_
    refine WQ_passAct rfl (gdN (b := (decide (0 ≤ (IntKind.i64.wrap ((b_n2 : Int) - 2))))) 9 rfl rfl hb5) rfl (by exact trivial) ?_
    refine WQ_skip rfl (gdN (b := (decide (0 ≤ (IntKind.i64.wrap ((b_n2 : Int) - 2))))) 9 rfl rfl hb5) rfl ?_
    refine WQ_val rfl gd0 (o_pickF (v := .bool false) rfl hb5 rfl) rfl ?_
    refine WQ_val rfl gd0 (o_assign (v := .bool false) rfl) rfl ?_
    refine WQ_nil ?_
    refine nrm ?_
    refine WC_ret ?_
    refine rtE ?_
    exact gv1 rfl rfl h

/-- spacecraft spacecraftref01.Check16 -/
def F20 (b_a1 : Option Addr) (b_n2 : Nat) (b_c3 : Nat) (w4 : World) (k : Value → World → Prop) : Prop :=
  if 0 ≤ (IntKind.i64.wrap ((b_n2 : Int) - 2)) then
  (0 : Int) ≤ IntKind.i64.wrap ((b_n2 : Int) - 2) ∧ IntKind.i64.wrap ((b_n2 : Int) - 2) ≤ (b_c3 : Int) ∧ ∃ (s8 : ByteArray), (Conv.bytesToString (.slice b_a1 b_n2 b_c3)).run Try.prog w4.drew = .ok (.string s8) w4.drew ∧ Does Try.prog 18 #[.slice b_a1 ((IntKind.i64.wrap ((b_n2 : Int) - 2)).toNat) b_c3] w4.drew (fun v w10 => ∃ (x_a11 : Option Addr) (x_n12 x_c13 : Nat), v = .slice x_a11 x_n12 x_c13 ∧ (Conv.bytesToString (.slice b_a1 b_n2 b_c3)).run Try.prog w10 = .ok (.string s8) w10 ∧ ∃ (s15 : ByteArray), (Conv.bytesToString (.slice x_a11 x_n12 x_c13)).run Try.prog w10 = .ok (.string s15) w10 ∧ k (.bool (s15.toList == s8.toList)) w10)
else
  k (.bool false) w4.drew
set_option maxRecDepth 100000 in
set_option maxHeartbeats 2000000 in
theorem w20 (b_a1 : Option Addr) (b_n2 : Nat) (b_c3 : Nat) (w4 : World) (k : Value → World → Prop) (h : F20 b_a1 b_n2 b_c3 w4 k) : Does Try.prog 20 #[.slice b_a1 b_n2 b_c3] w4 k := by
  refine enter 19 Try.func20 rfl rfl rfl ?_
  intro ρ hρ
  have e0 := hρ 0 _ rfl
  unfold F20 at h
  refine WC_seq ?_
  refine WC_region ?_
  refine WL_val gd0 ((o_assign (v := .bool false) rfl) _) rfl ?_
  refine WL_nil ?_
  refine nrm ?_
  refine WC_seq ?_
  refine WC_region ?_
  refine WL_val gd0 ((o_move (v := .slice b_a1 b_n2 b_c3) (by exact e0)) _) rfl ?_
  refine WL_val gd0 ((o_len Try.underlying22 rfl) _) rfl ?_
  refine WL_val gd0 ((o_sub rfl rfl) _) rfl ?_
  refine WL_val gd0 ((o_assign (v := .int .i64 (IntKind.i64.wrap ((b_n2 : Int) - 2))) rfl) _) rfl ?_
  refine WL_nil ?_
  refine nrm ?_
  refine WC_seq ?_
  refine WC_draws [(0, true), (1, true), (2, true), (3, true), (4, true), (5, true), (8, true), (9, true), (6, false), (7, true), (10, true), (11, true), (12, true)] Try.mixed (by kernel_rfl) ?_
  refine WQ_val rfl gd0 (o_move (v := .int .i64 (IntKind.i64.wrap ((b_n2 : Int) - 2))) rfl) rfl ?_
  refine WQ_val rfl gd0 (o_geq rfl rfl) rfl ?_
  refine WQ_val rfl gd0 (o_move (v := .bool (decide (0 ≤ (IntKind.i64.wrap ((b_n2 : Int) - 2))))) rfl) rfl ?_
  refine bsplit (decide (0 ≤ (IntKind.i64.wrap ((b_n2 : Int) - 2)))) (fun hb5 => ?_) (fun hb5 => ?_)
  · rw [if_pos (of_decide_eq_true hb5)] at h
    refine WQ_val rfl (gdY (b := (decide (0 ≤ (IntKind.i64.wrap ((b_n2 : Int) - 2))))) 9 rfl rfl hb5) (o_move (v := .slice b_a1 b_n2 b_c3) (by exact e0)) rfl ?_
    refine WQ_val rfl (gdY (b := (decide (0 ≤ (IntKind.i64.wrap ((b_n2 : Int) - 2))))) 9 rfl rfl hb5) (o_move (v := .int .i64 (IntKind.i64.wrap ((b_n2 : Int) - 2))) rfl) rfl ?_
    obtain ⟨c6, c7, h⟩ := h
    refine WQ_val rfl (gdY (b := (decide (0 ≤ (IntKind.i64.wrap ((b_n2 : Int) - 2))))) 9 rfl rfl hb5) (o_sliceH Try.underlying22 Try.sizeOf5 rfl rfl c6 c7) rfl ?_
    refine WQ_val rfl (gdY (b := (decide (0 ≤ (IntKind.i64.wrap ((b_n2 : Int) - 2))))) 9 rfl rfl hb5) (o_move (v := .slice b_a1 b_n2 b_c3) (by exact e0)) rfl ?_
    obtain ⟨s8, r9, h⟩ := h
    refine WQ_look (fun w => (Conv.bytesToString (.slice b_a1 b_n2 b_c3)).run Try.prog w = .ok (.string s8) w) rfl (gdY (b := (decide (0 ≤ (IntKind.i64.wrap ((b_n2 : Int) - 2))))) 9 rfl rfl hb5) (fun w hc => (o_toStr Try.underlying22 Try.underlying5 Try.underlying9 rfl hc)) r9 rfl ?_
    refine WQ_call rfl (gdY (b := (decide (0 ≤ (IntKind.i64.wrap ((b_n2 : Int) - 2))))) 9 rfl rfl hb5) (o_call Try.call18 (argCons rfl argNil) _) rfl (h.mono ?_)
    rintro _ w10 ⟨x_a11, x_n12, x_c13, rfl, hh14, h⟩
    refine ⟨⟨trivial, fun _ => hh14⟩, ?_⟩
    obtain ⟨s15, r16, h⟩ := h
    refine WQ_look (fun w => (Conv.bytesToString (.slice x_a11 x_n12 x_c13)).run Try.prog w = .ok (.string s15) w) rfl (gdY (b := (decide (0 ≤ (IntKind.i64.wrap ((b_n2 : Int) - 2))))) 9 rfl rfl hb5) (fun w hc => (o_toStr Try.underlying22 Try.underlying5 Try.underlying9 rfl hc)) r16 rfl ?_
    refine WQ_val rfl (gdY (b := (decide (0 ≤ (IntKind.i64.wrap ((b_n2 : Int) - 2))))) 9 rfl rfl hb5) (o_eqlStr rfl rfl) rfl ?_
    refine WQ_val rfl gd0 (o_pickT (v := .bool (s15.toList == s8.toList)) rfl hb5 rfl) rfl ?_
    refine WQ_val rfl gd0 (o_assign (v := .bool (s15.toList == s8.toList)) rfl) rfl ?_
    refine WQ_nil ?_
    refine nrm ?_
    refine WC_ret ?_
    refine rtE ?_
    exact gv1 rfl rfl h
  · rw [if_neg (of_decide_eq_false hb5)] at h
    refine WQ_skip rfl (gdN (b := (decide (0 ≤ (IntKind.i64.wrap ((b_n2 : Int) - 2))))) 9 rfl rfl hb5) rfl ?_
    refine WQ_skip rfl (gdN (b := (decide (0 ≤ (IntKind.i64.wrap ((b_n2 : Int) - 2))))) 9 rfl rfl hb5) rfl ?_
    refine WQ_skip rfl (gdN (b := (decide (0 ≤ (IntKind.i64.wrap ((b_n2 : Int) - 2))))) 9 rfl rfl hb5) rfl ?_
    refine WQ_skip rfl (gdN (b := (decide (0 ≤ (IntKind.i64.wrap ((b_n2 : Int) - 2))))) 9 rfl rfl hb5) rfl ?_
    refine WQ_skip rfl (gdN (b := (decide (0 ≤ (IntKind.i64.wrap ((b_n2 : Int) - 2))))) 9 rfl rfl hb5) rfl ?_
    refine WQ_passAct rfl (gdN (b := (decide (0 ≤ (IntKind.i64.wrap ((b_n2 : Int) - 2))))) 9 rfl rfl hb5) rfl (by exact trivial) ?_
    refine WQ_skip rfl (gdN (b := (decide (0 ≤ (IntKind.i64.wrap ((b_n2 : Int) - 2))))) 9 rfl rfl hb5) rfl ?_
    refine WQ_skip rfl (gdN (b := (decide (0 ≤ (IntKind.i64.wrap ((b_n2 : Int) - 2))))) 9 rfl rfl hb5) rfl ?_
    refine WQ_val rfl gd0 (o_pickF (v := .bool false) rfl hb5 rfl) rfl ?_
    refine WQ_val rfl gd0 (o_assign (v := .bool false) rfl) rfl ?_
    refine WQ_nil ?_
    refine nrm ?_
    refine WC_ret ?_
    refine rtE ?_
    exact gv1 rfl rfl h

def F21_j2 (b_a9 : Option Addr) (i4 : Int) (k18 : Int) (b_n10 : Nat) (t28 : Bool) (w29 : World) (nx19 : Int → World → Prop) : Prop :=
  if t28 = true then
  ∃ (p33 : Addr), b_a9 = some p33 ∧ (0 : Int) ≤ IntKind.i64.wrap (Int.tdiv (IntKind.i64.wrap (i4 + k18)) 8) ∧ IntKind.i64.wrap (Int.tdiv (IntKind.i64.wrap (i4 + k18)) 8) < (b_n10 : Int) ∧ ∃ (x35 : Int), w29.drew.cell? (p33.add ((IntKind.i64.wrap (Int.tdiv (IntKind.i64.wrap (i4 + k18)) 8)).toNat)) = some (.int .u8 x35) ∧ (0 : Int) ≤ IntKind.i64.wrap (7 - (Int.tmod (IntKind.i64.wrap (i4 + k18)) 8)) ∧ (0 : Int) ≤ IntKind.i64.wrap (Int.tdiv (IntKind.i64.wrap (i4 + k18)) 8) ∧ IntKind.i64.wrap (Int.tdiv (IntKind.i64.wrap (i4 + k18)) 8) < (b_n10 : Int) ∧ Put w29.drew (p33.add ((IntKind.i64.wrap (Int.tdiv (IntKind.i64.wrap (i4 + k18)) 8)).toNat)) (.int .u8 (bxor .u8 x35 (shl .u8 1 (IntKind.i64.wrap (7 - (Int.tmod (IntKind.i64.wrap (i4 + k18)) 8)))))) (fun w40 => nx19 (IntKind.i64.wrap (k18 + 1)) w40)
else
  nx19 (IntKind.i64.wrap (k18 + 1)) w29
def F21_b1 (pattern5 : Int) (b_a9 : Option Addr) (i4 : Int) (b_n10 : Nat) (b_c11 : Nat) (k18 : Int) (w19 : World) (nx19 : Int → World → Prop) (k : Value → World → Prop) : Prop :=
  if k18 < 16 then
  (0 : Int) ≤ IntKind.i64.wrap (15 - k18) ∧ if (Int.tmod (shr .u16 pattern5 (IntKind.i64.wrap (15 - k18))) 2) = 1 then
    F21_j2 b_a9 i4 k18 b_n10 (decide ((IntKind.i64.wrap (i4 + k18)) < (IntKind.i64.wrap (8 * (b_n10 : Int))))) w19 nx19
  else
    F21_j2 b_a9 i4 k18 b_n10 false w19 nx19
else
  k (.slice b_a9 b_n10 b_c11) w19
/-- spacecraft spacecraftlaw01.changed -/
def F21 (b_a1 : Option Addr) (b_n2 : Nat) (b_c3 : Nat) (i4 : Int) (pattern5 : Int) (w6 : World) (k : Value → World → Prop) : Prop :=
  New w6 5 [] (fun p7 w8 => ∃ (b_a9 : Option Addr) (b_n10 b_c11 : Nat) (w12 : World), (Builtin.append_ #[22, 22] 22 #[.slice (some p7) 0 0, .slice b_a1 b_n2 b_c3]).run Try.prog w8 = .ok (.slice b_a9 b_n10 b_c11) w12 ∧ LoopP (fun (s : Int) w' nx' => F21_b1 pattern5 b_a9 i4 b_n10 b_c11 s w' (fun x0 w => nx' x0 w) k) 0 w12)
set_option maxRecDepth 100000 in
set_option maxHeartbeats 2000000 in
theorem w21 (b_a1 : Option Addr) (b_n2 : Nat) (b_c3 : Nat) (i4 : Int) (pattern5 : Int) (w6 : World) (k : Value → World → Prop) (h : F21 b_a1 b_n2 b_c3 i4 pattern5 w6 k) : Does Try.prog 21 #[.slice b_a1 b_n2 b_c3, .int .i64 i4, .int .u16 pattern5] w6 k := by
  refine enter 48 Try.func21 rfl rfl rfl ?_
  intro ρ hρ
  have e0 := hρ 0 _ rfl
  have e1 := hρ 1 _ rfl
  have e2 := hρ 2 _ rfl
  unfold F21 at h
  refine WC_seq ?_
  refine WC_region ?_
  refine WL_val gd0 ((o_assign (v := .slice none 0 0) rfl) _) rfl ?_
  refine WL_nil ?_
  refine nrm ?_
  refine WC_seq ?_
  refine WC_region ?_
  have h := New.out h
  refine WL_val gd0 (o_buildSlice (e := 5) (ps := []) (cs := []) partNil (fun w => by kernel_rfl)) rfl ?_
  generalize hp7 : fresh w6 = p7 at h ⊢
  generalize hw8 : push w6 5 [] = w8 at h ⊢
  try dsimp only at h
  refine WL_val gd0 ((o_move (v := .slice b_a1 b_n2 b_c3) (by exact e0)) _) rfl ?_
  obtain ⟨b_a9, b_n10, b_c11, w12, r13, h⟩ := h
  refine WL_val gd0 (o_append rfl rfl r13) rfl ?_
  refine WL_val gd0 ((o_assign (v := .slice b_a9 b_n10 b_c11) rfl) _) rfl ?_
  refine WL_nil ?_
  refine nrm ?_
  refine WC_seq ?_
  refine WC_seq ?_
  refine WC_region ?_
  refine WL_val gd0 ((o_assign (v := .int .i64 0) rfl) _) rfl ?_
  refine WL_nil ?_
  refine nrm ?_
  refine WC_block ?_
  obtain ⟨J19, ⟨n19, h0⟩, hr19⟩ := h
  refine WC_loop (fun n ρ w' => ∃ (k18 : Int), ρ 8 = .int .i64 k18 ∧ ρ 1 = .int .i64 i4 ∧ ρ 2 = .int .u16 pattern5 ∧ ρ 7 = .slice b_a9 b_n10 b_c11 ∧ J19 n k18 w') ⟨n19, _, rfl, e1, e2, rfl, h0⟩ ?_
  rintro n19 ρ w19 ⟨k18, e8_17, e1_14, e2_15, e7_16, h⟩
  have h : F21_b1 pattern5 b_a9 i4 b_n10 b_c11 k18 w19 (fun x0 w => ∃ m, m < n19 ∧ J19 m x0 w) k := hr19 n19 k18 w19 h
  unfold F21_b1 at h
  refine WC_seq ?_
  refine WC_seq ?_
  refine WC_region ?_
  refine WL_val gd0 ((o_move (v := .int .i64 k18) (by exact e8_17)) _) rfl ?_
  refine WL_val gd0 ((o_lss rfl rfl) _) rfl ?_
  refine WL_nil ?_
  refine nrm ?_
  refine WC_cond (t := (decide (k18 < 16))) rfl (fun hb21 => ?_) (fun hb21 => ?_)
  · rw [if_pos (of_decide_eq_true hb21)] at h
    refine WC_skip ?_
    refine nrm ?_
    refine WC_seq ?_
    refine WC_block ?_
    refine WC_seq ?_
    refine WC_region ?_
    refine WL_val gd0 ((o_move (v := .int .i64 i4) (by exact e1_14)) _) rfl ?_
    refine WL_val gd0 ((o_move (v := .int .i64 k18) (by exact e8_17)) _) rfl ?_
    refine WL_val gd0 ((o_add rfl rfl) _) rfl ?_
    refine WL_val gd0 ((o_assign (v := .int .i64 (IntKind.i64.wrap (i4 + k18))) rfl) _) rfl ?_
    refine WL_nil ?_
    refine nrm ?_
    refine WC_cut (fun ρ w' => ∃ (t28 : Bool), ρ 32 = .bool t28 ∧ ρ 1 = .int .i64 i4 ∧ ρ 2 = .int .u16 pattern5 ∧ ρ 7 = .slice b_a9 b_n10 b_c11 ∧ ρ 8 = .int .i64 k18 ∧ ρ 9 = .int .i64 (IntKind.i64.wrap (i4 + k18)) ∧ F21_j2 b_a9 i4 k18 b_n10 t28 w' (fun x0 w => ∃ m, m < n19 ∧ J19 m x0 w)) ?_ ?_
    · refine WC_region ?_
      refine WL_val gd0 ((o_move (v := .int .u16 pattern5) (by exact e2_15)) _) rfl ?_
      refine WL_val gd0 ((o_move (v := .int .i64 k18) (by exact e8_17)) _) rfl ?_
      refine WL_val gd0 ((o_sub rfl rfl) _) rfl ?_
      obtain ⟨c42, h⟩ := h
      refine WL_val gd0 ((o_shr rfl rfl c42) _) rfl ?_
      refine WL_val gd0 ((fun w => o_rem rfl rfl w (by decide)) _) rfl ?_
      refine WL_val gd0 ((o_eql rfl rfl) _) rfl ?_
      refine WL_val gd0 ((o_move (v := .bool (decide ((Int.tmod (shr .u16 pattern5 (IntKind.i64.wrap (15 - k18))) 2) = 1))) rfl) _) rfl ?_
      refine bsplit (decide ((Int.tmod (shr .u16 pattern5 (IntKind.i64.wrap (15 - k18))) 2) = 1)) (fun hb43 => ?_) (fun hb43 => ?_)
      · rw [if_pos (of_decide_eq_true hb43)] at h
        refine WL_val (gdY (b := (decide ((Int.tmod (shr .u16 pattern5 (IntKind.i64.wrap (15 - k18))) 2) = 1))) 26 rfl rfl hb43) ((o_move (v := .int .i64 (IntKind.i64.wrap (i4 + k18))) rfl) _) rfl ?_
        refine WL_val (gdY (b := (decide ((Int.tmod (shr .u16 pattern5 (IntKind.i64.wrap (15 - k18))) 2) = 1))) 26 rfl rfl hb43) ((o_move (v := .slice b_a9 b_n10 b_c11) (by exact e7_16)) _) rfl ?_
        refine WL_val (gdY (b := (decide ((Int.tmod (shr .u16 pattern5 (IntKind.i64.wrap (15 - k18))) 2) = 1))) 26 rfl rfl hb43) ((o_len Try.underlying22 rfl) _) rfl ?_
        refine WL_val (gdY (b := (decide ((Int.tmod (shr .u16 pattern5 (IntKind.i64.wrap (15 - k18))) 2) = 1))) 26 rfl rfl hb43) ((o_mul rfl rfl) _) rfl ?_
        refine WL_val (gdY (b := (decide ((Int.tmod (shr .u16 pattern5 (IntKind.i64.wrap (15 - k18))) 2) = 1))) 26 rfl rfl hb43) ((o_lss rfl rfl) _) rfl ?_
        refine WL_val gd0 ((o_pickT (v := .bool (decide ((IntKind.i64.wrap (i4 + k18)) < (IntKind.i64.wrap (8 * (b_n10 : Int)))))) rfl hb43 rfl) _) rfl ?_
        refine WL_nil ?_
        refine nrm ?_
        exact ⟨_, rfl, e1_14, e2_15, e7_16, e8_17, rfl, h⟩
      · rw [if_neg (of_decide_eq_false hb43)] at h
        refine WL_skip (gdN (b := (decide ((Int.tmod (shr .u16 pattern5 (IntKind.i64.wrap (15 - k18))) 2) = 1))) 26 rfl rfl hb43) rfl ?_
        refine WL_skip (gdN (b := (decide ((Int.tmod (shr .u16 pattern5 (IntKind.i64.wrap (15 - k18))) 2) = 1))) 26 rfl rfl hb43) rfl ?_
        refine WL_skip (gdN (b := (decide ((Int.tmod (shr .u16 pattern5 (IntKind.i64.wrap (15 - k18))) 2) = 1))) 26 rfl rfl hb43) rfl ?_
        refine WL_skip (gdN (b := (decide ((Int.tmod (shr .u16 pattern5 (IntKind.i64.wrap (15 - k18))) 2) = 1))) 26 rfl rfl hb43) rfl ?_
        refine WL_skip (gdN (b := (decide ((Int.tmod (shr .u16 pattern5 (IntKind.i64.wrap (15 - k18))) 2) = 1))) 26 rfl rfl hb43) rfl ?_
        refine WL_val gd0 ((o_pickF (v := .bool false) rfl hb43 rfl) _) rfl ?_
        refine WL_nil ?_
        refine nrm ?_
        exact ⟨_, rfl, e1_14, e2_15, e7_16, e8_17, rfl, h⟩
    · rintro ρ w29 ⟨t28, e32_27, e1_22, e2_23, e7_24, e8_25, e9_26, h⟩
      unfold F21_j2 at h
      refine WC_cond (t := t28) (by exact e32_27) (fun hb30 => ?_) (fun hb30 => ?_)
      · rw [if_pos hb30] at h
        refine WC_draws [(0, true), (1, true), (2, true), (3, true), (4, true), (5, true), (6, true), (7, true), (8, true), (9, true), (10, true), (11, true), (12, true), (13, true), (14, false)] Try.mixed (by kernel_rfl) ?_
        refine WQ_val rfl gd0 (o_move (v := .slice b_a9 b_n10 b_c11) (by exact e7_24)) rfl ?_
        refine WQ_val rfl gd0 (o_move (v := .int .i64 (IntKind.i64.wrap (i4 + k18))) (by exact e9_26)) rfl ?_
        refine WQ_val rfl gd0 (fun w => o_quo rfl rfl w (by decide)) rfl ?_
        refine WQ_val rfl gd0 (o_move (v := .slice b_a9 b_n10 b_c11) (by exact e7_24)) rfl ?_
        refine WQ_val rfl gd0 (o_move (v := .int .i64 (IntKind.i64.wrap (i4 + k18))) (by exact e9_26)) rfl ?_
        refine WQ_val rfl gd0 (fun w => o_quo rfl rfl w (by decide)) rfl ?_
        obtain ⟨p33, q34, h⟩ := h
        obtain ⟨l31, u32, h⟩ := h
        refine WQ_val rfl gd0 (o_indexAddr1 Try.underlying22 Try.sizeOf5 (by exact (congrArg (fun z => Value.slice z b_n10 b_c11) q34)) rfl l31 u32) rfl ?_
        obtain ⟨x35, hc36, h⟩ := h
        refine WQ_look (fun w => w.cell? (p33.add ((IntKind.i64.wrap (Int.tdiv (IntKind.i64.wrap (i4 + k18)) 8)).toNat)) = some (.int .u8 x35)) rfl gd0 (fun w hc => (o_load Try.isAgg5 rfl hc)) hc36 rfl ?_
        refine WQ_val rfl gd0 (o_move (v := .int .i64 (IntKind.i64.wrap (i4 + k18))) (by exact e9_26)) rfl ?_
        refine WQ_val rfl gd0 (fun w => o_rem rfl rfl w (by decide)) rfl ?_
        refine WQ_val rfl gd0 (o_sub rfl rfl) rfl ?_
        obtain ⟨c37, h⟩ := h
        refine WQ_val rfl gd0 (o_shl rfl rfl c37) rfl ?_
        refine WQ_val rfl gd0 (o_xor rfl rfl) rfl ?_
        obtain ⟨l38, u39, h⟩ := h
        refine WQ_val rfl gd0 (o_indexAddr1 Try.underlying22 Try.sizeOf5 (by exact (congrArg (fun z => Value.slice z b_n10 b_c11) q34)) rfl l38 u39) rfl ?_
        obtain ⟨c41, h⟩ := h
        refine WQ_do rfl gd0 (o_store (v := .int .u8 (bxor .u8 x35 (shl .u8 1 (IntKind.i64.wrap (7 - (Int.tmod (IntKind.i64.wrap (i4 + k18)) 8)))))) Try.sizeOf5 rfl rfl rfl c41) (by exact ⟨trivial, depT (by kernel_rfl)⟩) ?_
        generalize hw40 : World.setCell w29.drew (p33.add ((IntKind.i64.wrap (Int.tdiv (IntKind.i64.wrap (i4 + k18)) 8)).toNat)) (.int .u8 (bxor .u8 x35 (shl .u8 1 (IntKind.i64.wrap (7 - (Int.tmod (IntKind.i64.wrap (i4 + k18)) 8)))))) = w40 at h ⊢
        try dsimp only at h
        refine WQ_nil ?_
        refine nrmB ?_
        refine nrm ?_
        refine WC_region ?_
        refine WL_val gd0 ((o_move (v := .int .i64 k18) (by exact e8_25)) _) rfl ?_
        refine WL_val gd0 ((o_add rfl rfl) _) rfl ?_
        refine WL_val gd0 ((o_assign (v := .int .i64 (IntKind.i64.wrap (k18 + 1))) rfl) _) rfl ?_
        refine WL_nil ?_
        refine nrm ?_
        obtain ⟨m20, hm20, h⟩ := h
        exact ⟨m20, hm20, _, rfl, e1_22, e2_23, e7_24, h⟩
      · rw [if_neg (neT hb30)] at h
        refine WC_skip ?_
        refine nrmB ?_
        refine nrm ?_
        refine WC_region ?_
        refine WL_val gd0 ((o_move (v := .int .i64 k18) (by exact e8_25)) _) rfl ?_
        refine WL_val gd0 ((o_add rfl rfl) _) rfl ?_
        refine WL_val gd0 ((o_assign (v := .int .i64 (IntKind.i64.wrap (k18 + 1))) rfl) _) rfl ?_
        refine WL_nil ?_
        refine nrm ?_
        obtain ⟨m20, hm20, h⟩ := h
        exact ⟨m20, hm20, _, rfl, e1_22, e2_23, e7_24, h⟩
  · rw [if_neg (of_decide_eq_false hb21)] at h
    refine WC_exit ?_
    refine exT ?_
    refine exT ?_
    refine exB ?_
    refine nrm ?_
    refine WC_seq ?_
    refine WC_region ?_
    refine WL_val gd0 ((o_move (v := .slice b_a9 b_n10 b_c11) (by exact e7_16)) _) rfl ?_
    refine WL_val gd0 ((o_assign (v := .slice b_a9 b_n10 b_c11) rfl) _) rfl ?_
    refine WL_nil ?_
    refine nrm ?_
    refine WC_ret ?_
    refine rtE ?_
    exact gv1 rfl rfl h

/-- spacecraft spacecraftref01.bit -/
def F22 (b_a1 : Option Addr) (b_n2 : Nat) (b_c3 : Nat) (i4 : Int) (w5 : World) (k : Value → World → Prop) : Prop :=
  ∃ (p8 : Addr), b_a1 = some p8 ∧ (0 : Int) ≤ IntKind.i64.wrap (Int.tdiv i4 8) ∧ IntKind.i64.wrap (Int.tdiv i4 8) < (b_n2 : Int) ∧ ∃ (x10 : Int), w5.cell? (p8.add ((IntKind.i64.wrap (Int.tdiv i4 8)).toNat)) = some (.int .u8 x10) ∧ (0 : Int) ≤ IntKind.i64.wrap (7 - (Int.tmod i4 8)) ∧ k (.int .i64 (Int.tmod (shr .i64 (IntKind.i64.wrap x10) (IntKind.i64.wrap (7 - (Int.tmod i4 8)))) 2)) w5
set_option maxRecDepth 100000 in
set_option maxHeartbeats 2000000 in
theorem w22 (b_a1 : Option Addr) (b_n2 : Nat) (b_c3 : Nat) (i4 : Int) (w5 : World) (k : Value → World → Prop) (h : F22 b_a1 b_n2 b_c3 i4 w5 k) : Does Try.prog 22 #[.slice b_a1 b_n2 b_c3, .int .i64 i4] w5 k := by
  refine enter 16 Try.func22 rfl rfl rfl ?_
  intro ρ hρ
  have e0 := hρ 0 _ rfl
  have e1 := hρ 1 _ rfl
  unfold F22 at h
  refine WC_seq ?_
  refine WC_region ?_
  refine WL_val gd0 ((o_assign (v := .int .i64 0) rfl) _) rfl ?_
  refine WL_nil ?_
  refine nrm ?_
  refine WC_seq ?_
  refine WC_region ?_
  refine WL_val gd0 ((o_move (v := .slice b_a1 b_n2 b_c3) (by exact e0)) _) rfl ?_
  refine WL_val gd0 ((o_move (v := .int .i64 i4) (by exact e1)) _) rfl ?_
  refine WL_val gd0 ((fun w => o_quo rfl rfl w (by decide)) _) rfl ?_
  obtain ⟨p8, q9, h⟩ := h
  obtain ⟨l6, u7, h⟩ := h
  refine WL_val gd0 ((o_indexAddr1 Try.underlying22 Try.sizeOf5 (by exact (congrArg (fun z => Value.slice z b_n2 b_c3) q9)) rfl l6 u7) _) rfl ?_
  obtain ⟨x10, hc11, h⟩ := h
  refine WL_val gd0 (o_load Try.isAgg5 rfl hc11) rfl ?_
  refine WL_val gd0 ((o_conv Try.underlying5 Try.underlying3 rfl) _) rfl ?_
  refine WL_val gd0 ((o_move (v := .int .i64 i4) (by exact e1)) _) rfl ?_
  refine WL_val gd0 ((fun w => o_rem rfl rfl w (by decide)) _) rfl ?_
  refine WL_val gd0 ((o_sub rfl rfl) _) rfl ?_
  obtain ⟨c12, h⟩ := h
  refine WL_val gd0 ((o_shr rfl rfl c12) _) rfl ?_
  refine WL_val gd0 ((fun w => o_rem rfl rfl w (by decide)) _) rfl ?_
  refine WL_val gd0 ((o_assign (v := .int .i64 (Int.tmod (shr .i64 (IntKind.i64.wrap x10) (IntKind.i64.wrap (7 - (Int.tmod i4 8)))) 2)) rfl) _) rfl ?_
  refine WL_nil ?_
  refine nrm ?_
  refine WC_ret ?_
  refine rtE ?_
  exact gv1 rfl rfl h

/-- slices.Clone   byte,byte  -/
def F23 (s_a1 : Option Addr) (s_n2 : Nat) (s_c3 : Nat) (w4 : World) (k : Value → World → Prop) : Prop :=
  if (s_a1).isNone = true then
  k (.slice none 0 0) w4
else
  New w4 5 [] (fun p6 w7 => ∃ (b_a8 : Option Addr) (b_n9 b_c10 : Nat) (w11 : World), (Builtin.append_ #[22, 22] 22 #[.slice (some p6) 0 0, .slice s_a1 s_n2 s_c3]).run Try.prog w7 = .ok (.slice b_a8 b_n9 b_c10) w11 ∧ k (.slice b_a8 b_n9 b_c10) w11)
set_option maxRecDepth 100000 in
set_option maxHeartbeats 2000000 in
theorem w23 (s_a1 : Option Addr) (s_n2 : Nat) (s_c3 : Nat) (w4 : World) (k : Value → World → Prop) (h : F23 s_a1 s_n2 s_c3 w4 k) : Does Try.prog 23 #[.slice s_a1 s_n2 s_c3] w4 k := by
  refine enter 8 Try.func23 rfl rfl rfl ?_
  intro ρ hρ
  have e0 := hρ 0 _ rfl
  unfold F23 at h
  refine WC_seq ?_
  refine WC_region ?_
  refine WL_val gd0 ((o_assign (v := .slice none 0 0) rfl) _) rfl ?_
  refine WL_nil ?_
  refine nrm ?_
  refine WC_seq ?_
  refine WC_seq ?_
  refine WC_region ?_
  refine WL_val gd0 ((o_move (v := .slice s_a1 s_n2 s_c3) (by exact e0)) _) rfl ?_
  refine WL_val gd0 ((o_eqlSliceNil Try.underlying22 rfl rfl) _) rfl ?_
  refine WL_nil ?_
  refine nrm ?_
  refine WC_cond (t := ((s_a1).isNone)) rfl (fun hb5 => ?_) (fun hb5 => ?_)
  · rw [if_pos hb5] at h
    refine WC_seq ?_
    refine WC_region ?_
    refine WL_val gd0 ((o_assign (v := .slice none 0 0) rfl) _) rfl ?_
    refine WL_nil ?_
    refine nrm ?_
    refine WC_ret ?_
    refine rtT ?_
    refine rtE ?_
    exact gv1 rfl rfl h
  · rw [if_neg (neT hb5)] at h
    refine WC_skip ?_
    refine nrm ?_
    refine WC_seq ?_
    refine WC_region ?_
    have h := New.out h
    refine WL_val gd0 (o_buildSlice (e := 5) (ps := []) (cs := []) partNil (fun w => by kernel_rfl)) rfl ?_
    generalize hp6 : fresh w4 = p6 at h ⊢
    generalize hw7 : push w4 5 [] = w7 at h ⊢
    try dsimp only at h
    refine WL_val gd0 ((o_move (v := .slice s_a1 s_n2 s_c3) (by exact e0)) _) rfl ?_
    obtain ⟨b_a8, b_n9, b_c10, w11, r12, h⟩ := h
    refine WL_val gd0 (o_append rfl rfl r12) rfl ?_
    refine WL_val gd0 ((o_assign (v := .slice b_a8 b_n9 b_c10) rfl) _) rfl ?_
    refine WL_nil ?_
    refine nrm ?_
    refine WC_ret ?_
    refine rtE ?_
    exact gv1 rfl rfl h


end Go.Proofs.Ytmgolpbonleekaa
