/-
  The forms of the functions, and their walks: written by a program of this claim (gen.py) off the elaborated translation.
-/
import Derived.Test.YtcgkmmiokmbjdaaProg
import Derived.Test.YtcgkmmiokmbjdaaBase
import Derived.KernelRfl
namespace Go.Proofs.Ytcgkmmiokmbjdaa
open Go Go.Sh Go.Proofs
set_option linter.unusedVariables false
theorem Try.mixed : Try.prog.follows .mixedOrders = true := by kernel_rfl
def F3_b1 (s4 : Option Addr) (id1 : Int) (i9 : Int) (w10 : World) (k : Value → World → Prop) (nx10 : Int → World → Prop) : Prop :=
  if i9 < 256 then
  New w10 3 [.int .i64 i9] (fun p13 w14 => Does Try.prog 9 #[.pointer s4, .int .i64 (IntKind.i64.wrap (2 * i9)), .int .i64 (IntKind.i64.wrap (1 + i9)), .slice (some p13) 1 1] w14 (fun v w15 => ∃ (x16 : Int), v = .int .i64 x16 ∧ if x16 ≠ 0 then
    k (.bool false) w15
  else
    nx10 (IntKind.i64.wrap (i9 + 1)) w15))
else
  New w10 3 [.int .i64 1] (fun p18 w19 => Does Try.prog 9 #[.pointer s4, .int .i64 (IntKind.i64.wrap ((IntKind.i64.wrap (2 * (IntKind.i64.wrap id1))) + 1)), .int .i64 1, .slice (some p18) 1 1] w19 (fun v w20 => ∃ (x21 : Int), v = .int .i64 x21 ∧ if x21 ≠ 7 then
    k (.bool false) w20
  else
    New w20 3 [.int .i64 1] (fun p23 w24 => Does Try.prog 9 #[.pointer s4, .int .i64 (IntKind.i64.wrap (2 * (IntKind.i64.wrap id1))), .int .i64 1, .slice (some p23) 1 1] w24 (fun v w25 => ∃ (x26 : Int), v = .int .i64 x26 ∧ if x26 ≠ 9 then
      k (.bool false) w25
    else
      Does Try.prog 10 #[.pointer s4, .int .i64 (IntKind.i64.wrap (2 * (IntKind.i64.wrap id1)))] w25 (fun v w28 => ∃ (x29 : Int), v = .int .i64 x29 ∧ if x29 ≠ 0 then
        k (.bool false) w28
      else
        New w28 3 [.int .i64 1] (fun p31 w32 => Does Try.prog 9 #[.pointer s4, .int .i64 (IntKind.i64.wrap ((IntKind.i64.wrap (2 * (IntKind.i64.wrap id1))) + 1)), .int .i64 1, .slice (some p31) 1 1] w32 (fun v w33 => ∃ (x34 : Int), v = .int .i64 x34 ∧ if x34 ≠ 0 then
          k (.bool false) w33
        else
          Does Try.prog 11 #[.pointer s4] w33 (fun v w36 => ∃ (l_a37 : Option Addr) (l_n38 l_c39 : Nat), v = .slice l_a37 l_n38 l_c39 ∧ if (l_n38 : Int) = 256 then
            ∃ (p43 : Addr), l_a37 = some p43 ∧ (0 : Int) ≤ id1 ∧ id1 < (l_n38 : Int) ∧ ∃ (x45 : Int), w36.cell? (p43.add (id1.toNat * 4)) = some (.int .i64 x45) ∧ if x45 = (IntKind.i64.wrap ((IntKind.i64.wrap (2 * (IntKind.i64.wrap id1))) + 1)) then
              Does Try.prog 12 #[] w36 (fun v w48 => ∃ (x49 : Bool), v = .bool x49 ∧ k (.bool x49) w48)
            else
              k (.bool false) w36
          else
            k (.bool false) w36))))))))
/-- spacecraft spacecraftlaw34.HkFull -/
def F3 (id1 : Int) (w2 : World) (k : Value → World → Prop) : Prop :=
  Does Try.prog 8 #[] w2 (fun v w3 => ∃ (s4 : Option Addr), v = .pointer s4 ∧ if (s4).isNone = true then
  k (.bool false) w3
else
  LoopP (fun (s : Int) w' nx' => F3_b1 s4 id1 s w' k (fun x0 w => nx' x0 w)) 0 w3)
set_option maxRecDepth 100000 in
set_option maxHeartbeats 2000000 in
theorem w3 (id1 : Int) (w2 : World) (k : Value → World → Prop) (h : F3 id1 w2 k) : Does Try.prog 3 #[.int .u8 id1] w2 k := by
  refine enter 73 Try.func3 rfl rfl rfl ?_
  intro ρ hρ
  have e0 := hρ 0 _ rfl
  unfold F3 at h
  refine WC_seq ?_
  refine WC_region ?_
  refine WL_val gd0 ((o_assign (v := .bool false) rfl) _) rfl ?_
  refine WL_nil ?_
  refine nrm ?_
  refine WC_seq ?_
  refine WC_region ?_
  refine WL_call gd0 (o_call Try.call8 argNil _) rfl (h.mono ?_)
  rintro _ w3 ⟨s4, rfl, h⟩
  refine WL_val gd0 ((o_assign (v := .pointer s4) rfl) _) rfl ?_
  refine WL_nil ?_
  refine nrm ?_
  refine WC_seq ?_
  refine WC_seq ?_
  refine WC_region ?_
  refine WL_val gd0 ((o_move (v := .pointer s4) rfl) _) rfl ?_
  refine WL_val gd0 ((o_eqlPtrNil Try.underlying22 rfl rfl) _) rfl ?_
  refine WL_nil ?_
  refine nrm ?_
  refine WC_cond (t := ((s4).isNone)) rfl (fun hb5 => ?_) (fun hb5 => ?_)
  · rw [if_pos hb5] at h
    refine WC_seq ?_
    refine WC_region ?_
    refine WL_val gd0 ((o_assign (v := .bool false) rfl) _) rfl ?_
    refine WL_nil ?_
    refine nrm ?_
    refine WC_ret ?_
    refine rtT ?_
    refine rtE ?_
    exact gv1 rfl rfl h
  · rw [if_neg (neT hb5)] at h
    refine WC_skip ?_
    refine nrm ?_
    refine WC_seq ?_
    refine WC_seq ?_
    refine WC_region ?_
    refine WL_val gd0 ((o_assign (v := .int .i64 0) rfl) _) rfl ?_
    refine WL_nil ?_
    refine nrm ?_
    refine WC_block ?_
    obtain ⟨J10, ⟨n10, h0⟩, hr10⟩ := h
    refine WC_loop (fun n ρ w' => ∃ (i9 : Int), ρ 4 = .int .i64 i9 ∧ ρ 0 = .int .u8 id1 ∧ ρ 3 = .pointer s4 ∧ J10 n i9 w') ⟨n10, _, rfl, e0, rfl, h0⟩ ?_
    rintro n10 ρ w10 ⟨i9, e4_8, e0_6, e3_7, h⟩
    have h : F3_b1 s4 id1 i9 w10 k (fun x0 w => ∃ m, m < n10 ∧ J10 m x0 w) := hr10 n10 i9 w10 h
    unfold F3_b1 at h
    refine WC_seq ?_
    refine WC_seq ?_
    refine WC_region ?_
    refine WL_val gd0 ((o_move (v := .int .i64 i9) (by exact e4_8)) _) rfl ?_
    refine WL_val gd0 ((o_lss rfl rfl) _) rfl ?_
    refine WL_nil ?_
    refine nrm ?_
    refine WC_cond (t := (decide (i9 < 256))) rfl (fun hb12 => ?_) (fun hb12 => ?_)
    · rw [if_pos (of_decide_eq_true hb12)] at h
      refine WC_skip ?_
      refine nrm ?_
      refine WC_seq ?_
      refine WC_block ?_
      refine WC_seq ?_
      refine WC_region ?_
      refine WL_val gd0 ((o_move (v := .pointer s4) (by exact e3_7)) _) rfl ?_
      refine WL_val gd0 ((o_move (v := .int .i64 i9) (by exact e4_8)) _) rfl ?_
      refine WL_val gd0 ((o_mul rfl rfl) _) rfl ?_
      refine WL_val gd0 ((o_move (v := .int .i64 i9) (by exact e4_8)) _) rfl ?_
      refine WL_val gd0 ((o_add rfl rfl) _) rfl ?_
      refine WL_val gd0 ((o_move (v := .int .i64 i9) (by exact e4_8)) _) rfl ?_
      have h := New.out h
      refine WL_val gd0 (o_buildSlice (e := 3) (ps := [(0, .int .i64 i9)]) (cs := [.int .i64 i9]) (partCons rfl partNil) (fun w => by kernel_rfl)) rfl ?_
      generalize hp13 : fresh w10 = p13 at h ⊢
      generalize hw14 : push w10 3 [.int .i64 i9] = w14 at h ⊢
      try dsimp only at h
      refine WL_call gd0 (o_call Try.call9 (argCons rfl (argCons rfl (argCons rfl (argCons rfl argNil)))) _) rfl (h.mono ?_)
      rintro _ w15 ⟨x16, rfl, h⟩
      refine WL_val gd0 ((o_neq rfl rfl) _) rfl ?_
      refine WL_nil ?_
      refine nrm ?_
      refine WC_cond (t := (decide (x16 ≠ 0))) rfl (fun hb17 => ?_) (fun hb17 => ?_)
      · rw [if_pos (of_decide_eq_true hb17)] at h
        refine WC_seq ?_
        refine WC_region ?_
        refine WL_val gd0 ((o_assign (v := .bool false) rfl) _) rfl ?_
        refine WL_nil ?_
        refine nrm ?_
        refine WC_ret ?_
        refine rtB ?_
        refine rtT ?_
        refine rtT ?_
        refine rtB ?_
        refine rtT ?_
        refine rtE ?_
        exact gv1 rfl rfl h
      · rw [if_neg (of_decide_eq_false hb17)] at h
        refine WC_skip ?_
        refine nrmB ?_
        refine nrm ?_
        refine WC_region ?_
        refine WL_val gd0 ((o_move (v := .int .i64 i9) (by exact e4_8)) _) rfl ?_
        refine WL_val gd0 ((o_add rfl rfl) _) rfl ?_
        refine WL_val gd0 ((o_assign (v := .int .i64 (IntKind.i64.wrap (i9 + 1))) rfl) _) rfl ?_
        refine WL_nil ?_
        refine nrm ?_
        obtain ⟨m11, hm11, h⟩ := h
        exact ⟨m11, hm11, _, rfl, e0_6, e3_7, h⟩
    · rw [if_neg (of_decide_eq_false hb12)] at h
      refine WC_exit ?_
      refine exT ?_
      refine exT ?_
      refine exB ?_
      refine nrm ?_
      refine WC_seq ?_
      refine WC_region ?_
      refine WL_val gd0 ((o_move (v := .int .u8 id1) (by exact e0_6)) _) rfl ?_
      refine WL_val gd0 ((o_conv Try.underlying5 Try.underlying3 rfl) _) rfl ?_
      refine WL_val gd0 ((o_mul rfl rfl) _) rfl ?_
      refine WL_val gd0 ((o_add rfl rfl) _) rfl ?_
      refine WL_val gd0 ((o_assign (v := .int .i64 (IntKind.i64.wrap ((IntKind.i64.wrap (2 * (IntKind.i64.wrap id1))) + 1))) rfl) _) rfl ?_
      refine WL_nil ?_
      refine nrm ?_
      refine WC_seq ?_
      refine WC_seq ?_
      refine WC_region ?_
      refine WL_val gd0 ((o_move (v := .pointer s4) (by exact e3_7)) _) rfl ?_
      refine WL_val gd0 ((o_move (v := .int .i64 (IntKind.i64.wrap ((IntKind.i64.wrap (2 * (IntKind.i64.wrap id1))) + 1))) rfl) _) rfl ?_
      have h := New.out h
      refine WL_val gd0 (o_buildSlice (e := 3) (ps := [(0, .int .i64 1)]) (cs := [.int .i64 1]) (partCons rfl partNil) (fun w => by kernel_rfl)) rfl ?_
      generalize hp18 : fresh w10 = p18 at h ⊢
      generalize hw19 : push w10 3 [.int .i64 1] = w19 at h ⊢
      try dsimp only at h
      refine WL_call gd0 (o_call Try.call9 (argCons rfl (argCons rfl (argCons rfl (argCons rfl argNil)))) _) rfl (h.mono ?_)
      rintro _ w20 ⟨x21, rfl, h⟩
      refine WL_val gd0 ((o_neq rfl rfl) _) rfl ?_
      refine WL_val gd0 ((o_move (v := .bool (decide (x21 ≠ 7))) rfl) _) rfl ?_
      refine bsplit (decide (x21 ≠ 7)) (fun hb22 => ?_) (fun hb22 => ?_)
      · rw [if_pos (of_decide_eq_true hb22)] at h
        refine WL_skip (gdN (b := (decide (x21 ≠ 7))) 32 rfl rfl hb22) rfl ?_
        refine WL_skip (gdN (b := (decide (x21 ≠ 7))) 32 rfl rfl hb22) rfl ?_
        refine WL_skip (gdN (b := (decide (x21 ≠ 7))) 32 rfl rfl hb22) rfl ?_
        refine WL_skip (gdN (b := (decide (x21 ≠ 7))) 32 rfl rfl hb22) rfl ?_
        refine WL_skip (gdN (b := (decide (x21 ≠ 7))) 32 rfl rfl hb22) rfl ?_
        refine WL_skip (gdN (b := (decide (x21 ≠ 7))) 32 rfl rfl hb22) rfl ?_
        refine WL_skip (gdN (b := (decide (x21 ≠ 7))) 32 rfl rfl hb22) rfl ?_
        refine WL_val gd0 ((o_pickT (v := .bool true) rfl hb22 rfl) _) rfl ?_
        refine WL_val gd0 ((o_move (v := .bool true) rfl) _) rfl ?_
        refine WL_skip (gdN (b := true) 41 rfl rfl rfl) rfl ?_
        refine WL_skip (gdN (b := true) 41 rfl rfl rfl) rfl ?_
        refine WL_skip (gdN (b := true) 41 rfl rfl rfl) rfl ?_
        refine WL_skip (gdN (b := true) 41 rfl rfl rfl) rfl ?_
        refine WL_skip (gdN (b := true) 41 rfl rfl rfl) rfl ?_
        refine WL_skip (gdN (b := true) 41 rfl rfl rfl) rfl ?_
        refine WL_val gd0 ((o_pickT (v := .bool true) rfl rfl rfl) _) rfl ?_
        refine WL_val gd0 ((o_move (v := .bool true) rfl) _) rfl ?_
        refine WL_skip (gdN (b := true) 49 rfl rfl rfl) rfl ?_
        refine WL_skip (gdN (b := true) 49 rfl rfl rfl) rfl ?_
        refine WL_skip (gdN (b := true) 49 rfl rfl rfl) rfl ?_
        refine WL_skip (gdN (b := true) 49 rfl rfl rfl) rfl ?_
        refine WL_skip (gdN (b := true) 49 rfl rfl rfl) rfl ?_
        refine WL_val gd0 ((o_pickT (v := .bool true) rfl rfl rfl) _) rfl ?_
        refine WL_nil ?_
        refine nrm ?_
        refine WC_cond (t := true) rfl (fun _ => ?_) (fun hx => by rw [(rfl : true = true)] at hx; cases hx)
        refine WC_seq ?_
        refine WC_region ?_
        refine WL_val gd0 ((o_assign (v := .bool false) rfl) _) rfl ?_
        refine WL_nil ?_
        refine nrm ?_
        refine WC_ret ?_
        refine rtT ?_
        refine rtE ?_
        exact gv1 rfl rfl h
      · rw [if_neg (of_decide_eq_false hb22)] at h
        refine WL_val (gdY (b := (decide (x21 ≠ 7))) 32 rfl rfl hb22) ((o_move (v := .pointer s4) (by exact e3_7)) _) rfl ?_
        refine WL_val (gdY (b := (decide (x21 ≠ 7))) 32 rfl rfl hb22) ((o_move (v := .int .u8 id1) (by exact e0_6)) _) rfl ?_
        refine WL_val (gdY (b := (decide (x21 ≠ 7))) 32 rfl rfl hb22) ((o_conv Try.underlying5 Try.underlying3 rfl) _) rfl ?_
        refine WL_val (gdY (b := (decide (x21 ≠ 7))) 32 rfl rfl hb22) ((o_mul rfl rfl) _) rfl ?_
        have h := New.out h
        refine WL_val (gdY (b := (decide (x21 ≠ 7))) 32 rfl rfl hb22) (o_buildSlice (e := 3) (ps := [(0, .int .i64 1)]) (cs := [.int .i64 1]) (partCons rfl partNil) (fun w => by kernel_rfl)) rfl ?_
        generalize hp23 : fresh w20 = p23 at h ⊢
        generalize hw24 : push w20 3 [.int .i64 1] = w24 at h ⊢
        try dsimp only at h
        refine WL_call (gdY (b := (decide (x21 ≠ 7))) 32 rfl rfl hb22) (o_call Try.call9 (argCons rfl (argCons rfl (argCons rfl (argCons rfl argNil)))) _) rfl (h.mono ?_)
        rintro _ w25 ⟨x26, rfl, h⟩
        refine WL_val (gdY (b := (decide (x21 ≠ 7))) 32 rfl rfl hb22) ((o_neq rfl rfl) _) rfl ?_
        refine WL_val gd0 ((o_pickF (v := .bool (decide (x26 ≠ 9))) rfl hb22 rfl) _) rfl ?_
        refine WL_val gd0 ((o_move (v := .bool (decide (x26 ≠ 9))) rfl) _) rfl ?_
        refine bsplit (decide (x26 ≠ 9)) (fun hb27 => ?_) (fun hb27 => ?_)
        · rw [if_pos (of_decide_eq_true hb27)] at h
          refine WL_skip (gdN (b := (decide (x26 ≠ 9))) 41 rfl rfl hb27) rfl ?_
          refine WL_skip (gdN (b := (decide (x26 ≠ 9))) 41 rfl rfl hb27) rfl ?_
          refine WL_skip (gdN (b := (decide (x26 ≠ 9))) 41 rfl rfl hb27) rfl ?_
          refine WL_skip (gdN (b := (decide (x26 ≠ 9))) 41 rfl rfl hb27) rfl ?_
          refine WL_skip (gdN (b := (decide (x26 ≠ 9))) 41 rfl rfl hb27) rfl ?_
          refine WL_skip (gdN (b := (decide (x26 ≠ 9))) 41 rfl rfl hb27) rfl ?_
          refine WL_val gd0 ((o_pickT (v := .bool true) rfl hb27 rfl) _) rfl ?_
          refine WL_val gd0 ((o_move (v := .bool true) rfl) _) rfl ?_
          refine WL_skip (gdN (b := true) 49 rfl rfl rfl) rfl ?_
          refine WL_skip (gdN (b := true) 49 rfl rfl rfl) rfl ?_
          refine WL_skip (gdN (b := true) 49 rfl rfl rfl) rfl ?_
          refine WL_skip (gdN (b := true) 49 rfl rfl rfl) rfl ?_
          refine WL_skip (gdN (b := true) 49 rfl rfl rfl) rfl ?_
          refine WL_val gd0 ((o_pickT (v := .bool true) rfl rfl rfl) _) rfl ?_
          refine WL_nil ?_
          refine nrm ?_
          refine WC_cond (t := true) rfl (fun _ => ?_) (fun hx => by rw [(rfl : true = true)] at hx; cases hx)
          refine WC_seq ?_
          refine WC_region ?_
          refine WL_val gd0 ((o_assign (v := .bool false) rfl) _) rfl ?_
          refine WL_nil ?_
          refine nrm ?_
          refine WC_ret ?_
          refine rtT ?_
          refine rtE ?_
          exact gv1 rfl rfl h
        · rw [if_neg (of_decide_eq_false hb27)] at h
          refine WL_val (gdY (b := (decide (x26 ≠ 9))) 41 rfl rfl hb27) ((o_move (v := .pointer s4) (by exact e3_7)) _) rfl ?_
          refine WL_val (gdY (b := (decide (x26 ≠ 9))) 41 rfl rfl hb27) ((o_move (v := .int .u8 id1) (by exact e0_6)) _) rfl ?_
          refine WL_val (gdY (b := (decide (x26 ≠ 9))) 41 rfl rfl hb27) ((o_conv Try.underlying5 Try.underlying3 rfl) _) rfl ?_
          refine WL_val (gdY (b := (decide (x26 ≠ 9))) 41 rfl rfl hb27) ((o_mul rfl rfl) _) rfl ?_
          refine WL_call (gdY (b := (decide (x26 ≠ 9))) 41 rfl rfl hb27) (o_call Try.call10 (argCons rfl (argCons rfl argNil)) _) rfl (h.mono ?_)
          rintro _ w28 ⟨x29, rfl, h⟩
          refine WL_val (gdY (b := (decide (x26 ≠ 9))) 41 rfl rfl hb27) ((o_neq rfl rfl) _) rfl ?_
          refine WL_val gd0 ((o_pickF (v := .bool (decide (x29 ≠ 0))) rfl hb27 rfl) _) rfl ?_
          refine WL_val gd0 ((o_move (v := .bool (decide (x29 ≠ 0))) rfl) _) rfl ?_
          refine bsplit (decide (x29 ≠ 0)) (fun hb30 => ?_) (fun hb30 => ?_)
          · rw [if_pos (of_decide_eq_true hb30)] at h
            refine WL_skip (gdN (b := (decide (x29 ≠ 0))) 49 rfl rfl hb30) rfl ?_
            refine WL_skip (gdN (b := (decide (x29 ≠ 0))) 49 rfl rfl hb30) rfl ?_
            refine WL_skip (gdN (b := (decide (x29 ≠ 0))) 49 rfl rfl hb30) rfl ?_
            refine WL_skip (gdN (b := (decide (x29 ≠ 0))) 49 rfl rfl hb30) rfl ?_
            refine WL_skip (gdN (b := (decide (x29 ≠ 0))) 49 rfl rfl hb30) rfl ?_
            refine WL_val gd0 ((o_pickT (v := .bool true) rfl hb30 rfl) _) rfl ?_
            refine WL_nil ?_
            refine nrm ?_
            refine WC_cond (t := true) rfl (fun _ => ?_) (fun hx => by rw [(rfl : true = true)] at hx; cases hx)
            refine WC_seq ?_
            refine WC_region ?_
            refine WL_val gd0 ((o_assign (v := .bool false) rfl) _) rfl ?_
            refine WL_nil ?_
            refine nrm ?_
            refine WC_ret ?_
            refine rtT ?_
            refine rtE ?_
            exact gv1 rfl rfl h
          · rw [if_neg (of_decide_eq_false hb30)] at h
            refine WL_val (gdY (b := (decide (x29 ≠ 0))) 49 rfl rfl hb30) ((o_move (v := .pointer s4) (by exact e3_7)) _) rfl ?_
            refine WL_val (gdY (b := (decide (x29 ≠ 0))) 49 rfl rfl hb30) ((o_move (v := .int .i64 (IntKind.i64.wrap ((IntKind.i64.wrap (2 * (IntKind.i64.wrap id1))) + 1))) rfl) _) rfl ?_
            have h := New.out h
            refine WL_val (gdY (b := (decide (x29 ≠ 0))) 49 rfl rfl hb30) (o_buildSlice (e := 3) (ps := [(0, .int .i64 1)]) (cs := [.int .i64 1]) (partCons rfl partNil) (fun w => by kernel_rfl)) rfl ?_
            generalize hp31 : fresh w28 = p31 at h ⊢
            generalize hw32 : push w28 3 [.int .i64 1] = w32 at h ⊢
            try dsimp only at h
            refine WL_call (gdY (b := (decide (x29 ≠ 0))) 49 rfl rfl hb30) (o_call Try.call9 (argCons rfl (argCons rfl (argCons rfl (argCons rfl argNil)))) _) rfl (h.mono ?_)
            rintro _ w33 ⟨x34, rfl, h⟩
            refine WL_val (gdY (b := (decide (x29 ≠ 0))) 49 rfl rfl hb30) ((o_neq rfl rfl) _) rfl ?_
            refine WL_val gd0 ((o_pickF (v := .bool (decide (x34 ≠ 0))) rfl hb30 rfl) _) rfl ?_
            refine WL_nil ?_
            refine nrm ?_
            refine WC_cond (t := (decide (x34 ≠ 0))) rfl (fun hb35 => ?_) (fun hb35 => ?_)
            · rw [if_pos (of_decide_eq_true hb35)] at h
              refine WC_seq ?_
              refine WC_region ?_
              refine WL_val gd0 ((o_assign (v := .bool false) rfl) _) rfl ?_
              refine WL_nil ?_
              refine nrm ?_
              refine WC_ret ?_
              refine rtT ?_
              refine rtE ?_
              exact gv1 rfl rfl h
            · rw [if_neg (of_decide_eq_false hb35)] at h
              refine WC_skip ?_
              refine nrm ?_
              refine WC_seq ?_
              refine WC_region ?_
              refine WL_val gd0 ((o_move (v := .pointer s4) (by exact e3_7)) _) rfl ?_
              refine WL_call gd0 (o_call Try.call11 (argCons rfl argNil) _) rfl (h.mono ?_)
              rintro _ w36 ⟨l_a37, l_n38, l_c39, rfl, h⟩
              refine WL_val gd0 ((o_assign (v := .slice l_a37 l_n38 l_c39) rfl) _) rfl ?_
              refine WL_nil ?_
              refine nrm ?_
              refine WC_seq ?_
              refine WC_region ?_
              refine WL_val gd0 ((o_move (v := .slice l_a37 l_n38 l_c39) rfl) _) rfl ?_
              refine WL_val gd0 ((o_len Try.underlying28 rfl) _) rfl ?_
              refine WL_val gd0 ((o_eql rfl rfl) _) rfl ?_
              refine WL_val gd0 ((o_move (v := .bool (decide ((l_n38 : Int) = 256))) rfl) _) rfl ?_
              refine bsplit (decide ((l_n38 : Int) = 256)) (fun hb40 => ?_) (fun hb40 => ?_)
              · rw [if_pos (of_decide_eq_true hb40)] at h
                refine WL_val (gdY (b := (decide ((l_n38 : Int) = 256))) 61 rfl rfl hb40) ((o_move (v := .slice l_a37 l_n38 l_c39) rfl) _) rfl ?_
                refine WL_val (gdY (b := (decide ((l_n38 : Int) = 256))) 61 rfl rfl hb40) ((o_move (v := .int .u8 id1) (by exact e0_6)) _) rfl ?_
                obtain ⟨p43, q44, h⟩ := h
                obtain ⟨l41, u42, h⟩ := h
                refine WL_val (gdY (b := (decide ((l_n38 : Int) = 256))) 61 rfl rfl hb40) ((o_indexAddr Try.underlying28 Try.sizeOf31 (by exact (congrArg (fun z => Value.slice z l_n38 l_c39) q44)) rfl l41 u42) _) rfl ?_
                refine WL_val (gdY (b := (decide ((l_n38 : Int) = 256))) 61 rfl rfl hb40) ((o_fieldAddr0 Try.underlying31 rfl Try.sizeOf3 rfl rfl rfl) _) rfl ?_
                obtain ⟨x45, hc46, h⟩ := h
                refine WL_val (gdY (b := (decide ((l_n38 : Int) = 256))) 61 rfl rfl hb40) (o_load Try.isAgg3 rfl hc46) rfl ?_
                refine WL_val (gdY (b := (decide ((l_n38 : Int) = 256))) 61 rfl rfl hb40) ((o_move (v := .int .i64 (IntKind.i64.wrap ((IntKind.i64.wrap (2 * (IntKind.i64.wrap id1))) + 1))) rfl) _) rfl ?_
                refine WL_val (gdY (b := (decide ((l_n38 : Int) = 256))) 61 rfl rfl hb40) ((o_eql rfl rfl) _) rfl ?_
                refine WL_val gd0 ((o_pickT (v := .bool (decide (x45 = (IntKind.i64.wrap ((IntKind.i64.wrap (2 * (IntKind.i64.wrap id1))) + 1))))) rfl hb40 rfl) _) rfl ?_
                refine WL_val gd0 ((o_move (v := .bool (decide (x45 = (IntKind.i64.wrap ((IntKind.i64.wrap (2 * (IntKind.i64.wrap id1))) + 1))))) rfl) _) rfl ?_
                refine bsplit (decide (x45 = (IntKind.i64.wrap ((IntKind.i64.wrap (2 * (IntKind.i64.wrap id1))) + 1)))) (fun hb47 => ?_) (fun hb47 => ?_)
                · rw [if_pos (of_decide_eq_true hb47)] at h
                  refine WL_call (gdY (b := (decide (x45 = (IntKind.i64.wrap ((IntKind.i64.wrap (2 * (IntKind.i64.wrap id1))) + 1))))) 70 rfl rfl hb47) (o_call Try.call12 argNil _) rfl (h.mono ?_)
                  rintro _ w48 ⟨x49, rfl, h⟩
                  refine WL_val gd0 ((o_pickT (v := .bool x49) rfl hb47 rfl) _) rfl ?_
                  refine WL_val gd0 ((o_assign (v := .bool x49) rfl) _) rfl ?_
                  refine WL_nil ?_
                  refine nrm ?_
                  refine WC_ret ?_
                  refine rtE ?_
                  exact gv1 rfl rfl h
                · rw [if_neg (of_decide_eq_false hb47)] at h
                  refine WL_skip (gdN (b := (decide (x45 = (IntKind.i64.wrap ((IntKind.i64.wrap (2 * (IntKind.i64.wrap id1))) + 1))))) 70 rfl rfl hb47) rfl ?_
                  refine WL_val gd0 ((o_pickF (v := .bool false) rfl hb47 rfl) _) rfl ?_
                  refine WL_val gd0 ((o_assign (v := .bool false) rfl) _) rfl ?_
                  refine WL_nil ?_
                  refine nrm ?_
                  refine WC_ret ?_
                  refine rtE ?_
                  exact gv1 rfl rfl h
              · rw [if_neg (of_decide_eq_false hb40)] at h
                refine WL_skip (gdN (b := (decide ((l_n38 : Int) = 256))) 61 rfl rfl hb40) rfl ?_
                refine WL_skip (gdN (b := (decide ((l_n38 : Int) = 256))) 61 rfl rfl hb40) rfl ?_
                refine WL_skip (gdN (b := (decide ((l_n38 : Int) = 256))) 61 rfl rfl hb40) rfl ?_
                refine WL_skip (gdN (b := (decide ((l_n38 : Int) = 256))) 61 rfl rfl hb40) rfl ?_
                refine WL_skip (gdN (b := (decide ((l_n38 : Int) = 256))) 61 rfl rfl hb40) rfl ?_
                refine WL_skip (gdN (b := (decide ((l_n38 : Int) = 256))) 61 rfl rfl hb40) rfl ?_
                refine WL_skip (gdN (b := (decide ((l_n38 : Int) = 256))) 61 rfl rfl hb40) rfl ?_
                refine WL_val gd0 ((o_pickF (v := .bool false) rfl hb40 rfl) _) rfl ?_
                refine WL_val gd0 ((o_move (v := .bool false) rfl) _) rfl ?_
                refine WL_skip (gdN (b := false) 70 rfl rfl rfl) rfl ?_
                refine WL_val gd0 ((o_pickF (v := .bool false) rfl rfl rfl) _) rfl ?_
                refine WL_val gd0 ((o_assign (v := .bool false) rfl) _) rfl ?_
                refine WL_nil ?_
                refine nrm ?_
                refine WC_ret ?_
                refine rtE ?_
                exact gv1 rfl rfl h

def F4_b1 (ticks3 : Int) (s6 : Option Addr) (start2 : Int) (interval1 : Int) (i21 : Int) (w22 : World) (k : Value → World → Prop) (nx22 : Int → World → Prop) : Prop :=
  if i21 ≤ (IntKind.i64.wrap ticks3) then
  Does Try.prog 14 #[.pointer s6, .int .i64 (IntKind.i64.wrap ((IntKind.i64.wrap start2) + i21)), .pointer none] w22 (fun v w25 => ∃ (l_a26 : Option Addr) (l_n27 l_c28 : Nat), v = .slice l_a26 l_n27 l_c28 ∧ if 1 < (l_n27 : Int) then
    k (.bool false) w25
  else
    if 0 < i21 then
      IntKind.i64.wrap (1 + (Int.tmod (IntKind.i64.wrap interval1) 50)) ≠ 0 ∧ if (!((decide ((l_n27 : Int) = 1)) == (decide ((Int.tmod i21 (IntKind.i64.wrap (1 + (Int.tmod (IntKind.i64.wrap interval1) 50)))) = 0)))) = true then
        k (.bool false) w25
      else
        if (l_n27 : Int) = 1 then
          ∃ (p36 : Addr), l_a26 = some p36 ∧ (0 : Int) ≤ 0 ∧ 0 < (l_n27 : Int) ∧ ∃ (x38 : Int), w25.cell? ((p36.add (((0 : Int).toNat) * 3)).add 1) = some (.int .i64 x38) ∧ if x38 ≠ (IntKind.i64.wrap ((IntKind.i64.wrap start2) + i21)) then
            k (.bool false) w25
          else
            nx22 (IntKind.i64.wrap (i21 + 1)) w25
        else
          nx22 (IntKind.i64.wrap (i21 + 1)) w25
    else
      if (!((decide ((l_n27 : Int) = 1)) == false)) = true then
        k (.bool false) w25
      else
        if (l_n27 : Int) = 1 then
          ∃ (p45 : Addr), l_a26 = some p45 ∧ (0 : Int) ≤ 0 ∧ 0 < (l_n27 : Int) ∧ ∃ (x47 : Int), w25.cell? ((p45.add (((0 : Int).toNat) * 3)).add 1) = some (.int .i64 x47) ∧ if x47 ≠ (IntKind.i64.wrap ((IntKind.i64.wrap start2) + i21)) then
            k (.bool false) w25
          else
            nx22 (IntKind.i64.wrap (i21 + 1)) w25
        else
          nx22 (IntKind.i64.wrap (i21 + 1)) w25)
else
  Does Try.prog 13 #[.pointer s6, .int .i64 9, .bool false, .int .i64 (IntKind.i64.wrap start2)] w22 (fun v w50 => ∃ (x51 : Int), v = .int .i64 x51 ∧ if x51 = 0 then
    Does Try.prog 14 #[.pointer s6, .int .i64 (IntKind.i64.wrap ((IntKind.i64.wrap start2) + 1000)), .pointer none] w50 (fun v w53 => ∃ (x_a54 : Option Addr) (x_n55 x_c56 : Nat), v = .slice x_a54 x_n55 x_c56 ∧ if (x_n55 : Int) = 0 then
      Does Try.prog 12 #[] w53 (fun v w58 => ∃ (x59 : Bool), v = .bool x59 ∧ k (.bool x59) w58)
    else
      k (.bool false) w53)
  else
    k (.bool false) w50)
/-- spacecraft spacecraftlaw34.HkPeriods -/
def F4 (interval1 : Int) (start2 : Int) (ticks3 : Int) (w4 : World) (k : Value → World → Prop) : Prop :=
  Does Try.prog 8 #[] w4 (fun v w5 => ∃ (s6 : Option Addr), v = .pointer s6 ∧ if (s6).isNone = true then
  k (.bool false) w5
else
  New w5 3 [.int .i64 1] (fun p8 w9 => Does Try.prog 9 #[.pointer s6, .int .i64 9, .int .i64 (IntKind.i64.wrap (1 + (Int.tmod (IntKind.i64.wrap interval1) 50))), .slice (some p8) 1 1] w9 (fun v w10 => ∃ (x11 : Int), v = .int .i64 x11 ∧ if x11 ≠ 0 then
    k (.bool false) w10
  else
    Does Try.prog 13 #[.pointer s6, .int .i64 9, .bool true, .int .i64 (IntKind.i64.wrap start2)] w10 (fun v w13 => ∃ (x14 : Int), v = .int .i64 x14 ∧ if x14 ≠ 0 then
      k (.bool false) w13
    else
      LoopP (fun (s : Int) w' nx' => F4_b1 ticks3 s6 start2 interval1 s w' k (fun x0 w => nx' x0 w)) 0 w13))))
set_option maxRecDepth 100000 in
set_option maxHeartbeats 2000000 in
theorem w4 (interval1 : Int) (start2 : Int) (ticks3 : Int) (w4 : World) (k : Value → World → Prop) (h : F4 interval1 start2 ticks3 w4 k) : Does Try.prog 4 #[.int .u16 interval1, .int .u16 start2, .int .u8 ticks3] w4 k := by
  refine enter 90 Try.func4 rfl rfl rfl ?_
  intro ρ hρ
  have e0 := hρ 0 _ rfl
  have e1 := hρ 1 _ rfl
  have e2 := hρ 2 _ rfl
  unfold F4 at h
  refine WC_seq ?_
  refine WC_region ?_
  refine WL_val gd0 ((o_assign (v := .bool false) rfl) _) rfl ?_
  refine WL_nil ?_
  refine nrm ?_
  refine WC_seq ?_
  refine WC_region ?_
  refine WL_call gd0 (o_call Try.call8 argNil _) rfl (h.mono ?_)
  rintro _ w5 ⟨s6, rfl, h⟩
  refine WL_val gd0 ((o_assign (v := .pointer s6) rfl) _) rfl ?_
  refine WL_nil ?_
  refine nrm ?_
  refine WC_seq ?_
  refine WC_seq ?_
  refine WC_region ?_
  refine WL_val gd0 ((o_move (v := .pointer s6) rfl) _) rfl ?_
  refine WL_val gd0 ((o_eqlPtrNil Try.underlying22 rfl rfl) _) rfl ?_
  refine WL_nil ?_
  refine nrm ?_
  refine WC_cond (t := ((s6).isNone)) rfl (fun hb7 => ?_) (fun hb7 => ?_)
  · rw [if_pos hb7] at h
    refine WC_seq ?_
    refine WC_region ?_
    refine WL_val gd0 ((o_assign (v := .bool false) rfl) _) rfl ?_
    refine WL_nil ?_
    refine nrm ?_
    refine WC_ret ?_
    refine rtT ?_
    refine rtE ?_
    exact gv1 rfl rfl h
  · rw [if_neg (neT hb7)] at h
    refine WC_skip ?_
    refine nrm ?_
    refine WC_seq ?_
    refine WC_region ?_
    refine WL_val gd0 ((o_move (v := .int .u16 interval1) (by exact e0)) _) rfl ?_
    refine WL_val gd0 ((o_conv Try.underlying34 Try.underlying3 rfl) _) rfl ?_
    refine WL_val gd0 ((fun w => o_rem rfl rfl w (by decide)) _) rfl ?_
    refine WL_val gd0 ((o_add rfl rfl) _) rfl ?_
    refine WL_val gd0 ((o_move (v := .int .u16 start2) (by exact e1)) _) rfl ?_
    refine WL_val gd0 ((o_conv Try.underlying34 Try.underlying3 rfl) _) rfl ?_
    refine WL_val gd0 ((o_assign (v := .int .i64 (IntKind.i64.wrap (1 + (Int.tmod (IntKind.i64.wrap interval1) 50)))) rfl) _) rfl ?_
    refine WL_val gd0 ((o_assign (v := .int .i64 (IntKind.i64.wrap start2)) rfl) _) rfl ?_
    refine WL_nil ?_
    refine nrm ?_
    refine WC_seq ?_
    refine WC_seq ?_
    refine WC_region ?_
    refine WL_val gd0 ((o_move (v := .pointer s6) rfl) _) rfl ?_
    refine WL_val gd0 ((o_move (v := .int .i64 (IntKind.i64.wrap (1 + (Int.tmod (IntKind.i64.wrap interval1) 50)))) rfl) _) rfl ?_
    have h := New.out h
    refine WL_val gd0 (o_buildSlice (e := 3) (ps := [(0, .int .i64 1)]) (cs := [.int .i64 1]) (partCons rfl partNil) (fun w => by kernel_rfl)) rfl ?_
    generalize hp8 : fresh w5 = p8 at h ⊢
    generalize hw9 : push w5 3 [.int .i64 1] = w9 at h ⊢
    try dsimp only at h
    refine WL_call gd0 (o_call Try.call9 (argCons rfl (argCons rfl (argCons rfl (argCons rfl argNil)))) _) rfl (h.mono ?_)
    rintro _ w10 ⟨x11, rfl, h⟩
    refine WL_val gd0 ((o_neq rfl rfl) _) rfl ?_
    refine WL_val gd0 ((o_move (v := .bool (decide (x11 ≠ 0))) rfl) _) rfl ?_
    refine bsplit (decide (x11 ≠ 0)) (fun hb12 => ?_) (fun hb12 => ?_)
    · rw [if_pos (of_decide_eq_true hb12)] at h
      refine WL_skip (gdN (b := (decide (x11 ≠ 0))) 26 rfl rfl hb12) rfl ?_
      refine WL_skip (gdN (b := (decide (x11 ≠ 0))) 26 rfl rfl hb12) rfl ?_
      refine WL_skip (gdN (b := (decide (x11 ≠ 0))) 26 rfl rfl hb12) rfl ?_
      refine WL_skip (gdN (b := (decide (x11 ≠ 0))) 26 rfl rfl hb12) rfl ?_
      refine WL_val gd0 ((o_pickT (v := .bool true) rfl hb12 rfl) _) rfl ?_
      refine WL_nil ?_
      refine nrm ?_
      refine WC_cond (t := true) rfl (fun _ => ?_) (fun hx => by rw [(rfl : true = true)] at hx; cases hx)
      refine WC_seq ?_
      refine WC_region ?_
      refine WL_val gd0 ((o_assign (v := .bool false) rfl) _) rfl ?_
      refine WL_nil ?_
      refine nrm ?_
      refine WC_ret ?_
      refine rtT ?_
      refine rtE ?_
      exact gv1 rfl rfl h
    · rw [if_neg (of_decide_eq_false hb12)] at h
      refine WL_val (gdY (b := (decide (x11 ≠ 0))) 26 rfl rfl hb12) ((o_move (v := .pointer s6) rfl) _) rfl ?_
      refine WL_val (gdY (b := (decide (x11 ≠ 0))) 26 rfl rfl hb12) ((o_move (v := .int .i64 (IntKind.i64.wrap start2)) rfl) _) rfl ?_
      refine WL_call (gdY (b := (decide (x11 ≠ 0))) 26 rfl rfl hb12) (o_call Try.call13 (argCons rfl (argCons rfl (argCons rfl (argCons rfl argNil)))) _) rfl (h.mono ?_)
      rintro _ w13 ⟨x14, rfl, h⟩
      refine WL_val (gdY (b := (decide (x11 ≠ 0))) 26 rfl rfl hb12) ((o_neq rfl rfl) _) rfl ?_
      refine WL_val gd0 ((o_pickF (v := .bool (decide (x14 ≠ 0))) rfl hb12 rfl) _) rfl ?_
      refine WL_nil ?_
      refine nrm ?_
      refine WC_cond (t := (decide (x14 ≠ 0))) rfl (fun hb15 => ?_) (fun hb15 => ?_)
      · rw [if_pos (of_decide_eq_true hb15)] at h
        refine WC_seq ?_
        refine WC_region ?_
        refine WL_val gd0 ((o_assign (v := .bool false) rfl) _) rfl ?_
        refine WL_nil ?_
        refine nrm ?_
        refine WC_ret ?_
        refine rtT ?_
        refine rtE ?_
        exact gv1 rfl rfl h
      · rw [if_neg (of_decide_eq_false hb15)] at h
        refine WC_skip ?_
        refine nrm ?_
        refine WC_seq ?_
        refine WC_seq ?_
        refine WC_region ?_
        refine WL_val gd0 ((o_assign (v := .int .i64 0) rfl) _) rfl ?_
        refine WL_nil ?_
        refine nrm ?_
        refine WC_block ?_
        obtain ⟨J22, ⟨n22, h0⟩, hr22⟩ := h
        refine WC_loop (fun n ρ w' => ∃ (i21 : Int), ρ 10 = .int .i64 i21 ∧ ρ 2 = .int .u8 ticks3 ∧ ρ 7 = .pointer s6 ∧ ρ 8 = .int .i64 (IntKind.i64.wrap (1 + (Int.tmod (IntKind.i64.wrap interval1) 50))) ∧ ρ 9 = .int .i64 (IntKind.i64.wrap start2) ∧ J22 n i21 w') ⟨n22, _, rfl, e2, rfl, rfl, rfl, h0⟩ ?_
        rintro n22 ρ w22 ⟨i21, e10_20, e2_16, e7_17, e8_18, e9_19, h⟩
        have h : F4_b1 ticks3 s6 start2 interval1 i21 w22 k (fun x0 w => ∃ m, m < n22 ∧ J22 m x0 w) := hr22 n22 i21 w22 h
        unfold F4_b1 at h
        refine WC_seq ?_
        refine WC_seq ?_
        refine WC_region ?_
        refine WL_val gd0 ((o_move (v := .int .i64 i21) (by exact e10_20)) _) rfl ?_
        refine WL_val gd0 ((o_move (v := .int .u8 ticks3) (by exact e2_16)) _) rfl ?_
        refine WL_val gd0 ((o_conv Try.underlying5 Try.underlying3 rfl) _) rfl ?_
        refine WL_val gd0 ((o_leq rfl rfl) _) rfl ?_
        refine WL_nil ?_
        refine nrm ?_
        refine WC_cond (t := (decide (i21 ≤ (IntKind.i64.wrap ticks3)))) rfl (fun hb24 => ?_) (fun hb24 => ?_)
        · rw [if_pos (of_decide_eq_true hb24)] at h
          refine WC_skip ?_
          refine nrm ?_
          refine WC_seq ?_
          refine WC_block ?_
          refine WC_seq ?_
          refine WC_region ?_
          refine WL_val gd0 ((o_move (v := .pointer s6) (by exact e7_17)) _) rfl ?_
          refine WL_val gd0 ((o_move (v := .int .i64 (IntKind.i64.wrap start2)) (by exact e9_19)) _) rfl ?_
          refine WL_val gd0 ((o_move (v := .int .i64 i21) (by exact e10_20)) _) rfl ?_
          refine WL_val gd0 ((o_add rfl rfl) _) rfl ?_
          refine WL_call gd0 (o_call Try.call14 (argCons rfl (argCons rfl (argCons rfl argNil))) _) rfl (h.mono ?_)
          rintro _ w25 ⟨l_a26, l_n27, l_c28, rfl, h⟩
          refine WL_val gd0 ((o_assign (v := .slice l_a26 l_n27 l_c28) rfl) _) rfl ?_
          refine WL_nil ?_
          refine nrm ?_
          refine WC_seq ?_
          refine WC_region ?_
          refine WL_val gd0 ((o_move (v := .slice l_a26 l_n27 l_c28) rfl) _) rfl ?_
          refine WL_val gd0 ((o_len Try.underlying36 rfl) _) rfl ?_
          refine WL_val gd0 ((o_gtr rfl rfl) _) rfl ?_
          refine WL_val gd0 ((o_move (v := .bool (decide (1 < (l_n27 : Int)))) rfl) _) rfl ?_
          refine bsplit (decide (1 < (l_n27 : Int))) (fun hb29 => ?_) (fun hb29 => ?_)
          · rw [if_pos (of_decide_eq_true hb29)] at h
            refine WL_skip (gdN (b := (decide (1 < (l_n27 : Int)))) 46 rfl rfl hb29) rfl ?_
            refine WL_skip (gdN (b := (decide (1 < (l_n27 : Int)))) 46 rfl rfl hb29) rfl ?_
            refine WL_skip (gdN (b := (decide (1 < (l_n27 : Int)))) 46 rfl rfl hb29) rfl ?_
            refine WL_skip (gdN (b := (decide (1 < (l_n27 : Int)))) 46 rfl rfl hb29) rfl ?_
            refine WL_skip (gdN (b := (decide (1 < (l_n27 : Int)))) 46 rfl rfl hb29) rfl ?_
            refine WL_skip (gdN (b := (decide (1 < (l_n27 : Int)))) 46 rfl rfl hb29) rfl ?_
            refine WL_skip (gdU 52 rfl rfl) rfl ?_
            refine WL_skip (gdU 52 rfl rfl) rfl ?_
            refine WL_skip (gdU 52 rfl rfl) rfl ?_
            refine WL_skip (gdU 52 rfl rfl) rfl ?_
            refine WL_skip (gdN (b := (decide (1 < (l_n27 : Int)))) 46 rfl rfl hb29) rfl ?_
            refine WL_skip (gdN (b := (decide (1 < (l_n27 : Int)))) 46 rfl rfl hb29) rfl ?_
            refine WL_val gd0 ((o_pickT (v := .bool true) rfl hb29 rfl) _) rfl ?_
            refine WL_val gd0 ((o_move (v := .bool true) rfl) _) rfl ?_
            refine WL_skip (gdN (b := true) 60 rfl rfl rfl) rfl ?_
            refine WL_skip (gdN (b := true) 60 rfl rfl rfl) rfl ?_
            refine WL_skip (gdN (b := true) 60 rfl rfl rfl) rfl ?_
            refine WL_skip (gdN (b := true) 60 rfl rfl rfl) rfl ?_
            refine WL_skip (gdU 64 rfl rfl) rfl ?_
            refine WL_skip (gdU 64 rfl rfl) rfl ?_
            refine WL_skip (gdU 64 rfl rfl) rfl ?_
            refine WL_skip (gdU 64 rfl rfl) rfl ?_
            refine WL_skip (gdU 64 rfl rfl) rfl ?_
            refine WL_skip (gdU 64 rfl rfl) rfl ?_
            refine WL_skip (gdU 64 rfl rfl) rfl ?_
            refine WL_skip (gdU 64 rfl rfl) rfl ?_
            refine WL_skip (gdN (b := true) 60 rfl rfl rfl) rfl ?_
            refine WL_val gd0 ((o_pickT (v := .bool true) rfl rfl rfl) _) rfl ?_
            refine WL_nil ?_
            refine nrm ?_
            refine WC_cond (t := true) rfl (fun _ => ?_) (fun hx => by rw [(rfl : true = true)] at hx; cases hx)
            refine WC_seq ?_
            refine WC_region ?_
            refine WL_val gd0 ((o_assign (v := .bool false) rfl) _) rfl ?_
            refine WL_nil ?_
            refine nrm ?_
            refine WC_ret ?_
            refine rtB ?_
            refine rtT ?_
            refine rtT ?_
            refine rtB ?_
            refine rtT ?_
            refine rtE ?_
            exact gv1 rfl rfl h
          · rw [if_neg (of_decide_eq_false hb29)] at h
            refine WL_val (gdY (b := (decide (1 < (l_n27 : Int)))) 46 rfl rfl hb29) ((o_move (v := .slice l_a26 l_n27 l_c28) rfl) _) rfl ?_
            refine WL_val (gdY (b := (decide (1 < (l_n27 : Int)))) 46 rfl rfl hb29) ((o_len Try.underlying36 rfl) _) rfl ?_
            refine WL_val (gdY (b := (decide (1 < (l_n27 : Int)))) 46 rfl rfl hb29) ((o_eql rfl rfl) _) rfl ?_
            refine WL_val (gdY (b := (decide (1 < (l_n27 : Int)))) 46 rfl rfl hb29) ((o_move (v := .int .i64 i21) (by exact e10_20)) _) rfl ?_
            refine WL_val (gdY (b := (decide (1 < (l_n27 : Int)))) 46 rfl rfl hb29) ((o_gtr rfl rfl) _) rfl ?_
            refine WL_val (gdY (b := (decide (1 < (l_n27 : Int)))) 46 rfl rfl hb29) ((o_move (v := .bool (decide (0 < i21))) rfl) _) rfl ?_
            refine bsplit (decide (0 < i21)) (fun hb30 => ?_) (fun hb30 => ?_)
            · rw [if_pos (of_decide_eq_true hb30)] at h
              refine WL_val (gdY (b := (decide (0 < i21))) 52 rfl rfl hb30) ((o_move (v := .int .i64 i21) (by exact e10_20)) _) rfl ?_
              refine WL_val (gdY (b := (decide (0 < i21))) 52 rfl rfl hb30) ((o_move (v := .int .i64 (IntKind.i64.wrap (1 + (Int.tmod (IntKind.i64.wrap interval1) 50)))) (by exact e8_18)) _) rfl ?_
              obtain ⟨c31, h⟩ := h
              refine WL_val (gdY (b := (decide (0 < i21))) 52 rfl rfl hb30) ((fun w => o_rem rfl rfl w c31) _) rfl ?_
              refine WL_val (gdY (b := (decide (0 < i21))) 52 rfl rfl hb30) ((o_eql rfl rfl) _) rfl ?_
              refine WL_val (gdY (b := (decide (1 < (l_n27 : Int)))) 46 rfl rfl hb29) ((o_pickT (v := .bool (decide ((Int.tmod i21 (IntKind.i64.wrap (1 + (Int.tmod (IntKind.i64.wrap interval1) 50)))) = 0))) rfl hb30 rfl) _) rfl ?_
              refine WL_val (gdY (b := (decide (1 < (l_n27 : Int)))) 46 rfl rfl hb29) ((o_neqBool Try.underlying4 rfl rfl) _) rfl ?_
              refine WL_val gd0 ((o_pickF (v := .bool (!((decide ((l_n27 : Int) = 1)) == (decide ((Int.tmod i21 (IntKind.i64.wrap (1 + (Int.tmod (IntKind.i64.wrap interval1) 50)))) = 0))))) rfl hb29 rfl) _) rfl ?_
              refine WL_val gd0 ((o_move (v := .bool (!((decide ((l_n27 : Int) = 1)) == (decide ((Int.tmod i21 (IntKind.i64.wrap (1 + (Int.tmod (IntKind.i64.wrap interval1) 50)))) = 0))))) rfl) _) rfl ?_
              refine bsplit (!((decide ((l_n27 : Int) = 1)) == (decide ((Int.tmod i21 (IntKind.i64.wrap (1 + (Int.tmod (IntKind.i64.wrap interval1) 50)))) = 0)))) (fun hb32 => ?_) (fun hb32 => ?_)
              · rw [if_pos hb32] at h
                refine WL_skip (gdN (b := (!((decide ((l_n27 : Int) = 1)) == (decide ((Int.tmod i21 (IntKind.i64.wrap (1 + (Int.tmod (IntKind.i64.wrap interval1) 50)))) = 0))))) 60 rfl rfl hb32) rfl ?_
                refine WL_skip (gdN (b := (!((decide ((l_n27 : Int) = 1)) == (decide ((Int.tmod i21 (IntKind.i64.wrap (1 + (Int.tmod (IntKind.i64.wrap interval1) 50)))) = 0))))) 60 rfl rfl hb32) rfl ?_
                refine WL_skip (gdN (b := (!((decide ((l_n27 : Int) = 1)) == (decide ((Int.tmod i21 (IntKind.i64.wrap (1 + (Int.tmod (IntKind.i64.wrap interval1) 50)))) = 0))))) 60 rfl rfl hb32) rfl ?_
                refine WL_skip (gdN (b := (!((decide ((l_n27 : Int) = 1)) == (decide ((Int.tmod i21 (IntKind.i64.wrap (1 + (Int.tmod (IntKind.i64.wrap interval1) 50)))) = 0))))) 60 rfl rfl hb32) rfl ?_
                refine WL_skip (gdU 64 rfl rfl) rfl ?_
                refine WL_skip (gdU 64 rfl rfl) rfl ?_
                refine WL_skip (gdU 64 rfl rfl) rfl ?_
                refine WL_skip (gdU 64 rfl rfl) rfl ?_
                refine WL_skip (gdU 64 rfl rfl) rfl ?_
                refine WL_skip (gdU 64 rfl rfl) rfl ?_
                refine WL_skip (gdU 64 rfl rfl) rfl ?_
                refine WL_skip (gdU 64 rfl rfl) rfl ?_
                refine WL_skip (gdN (b := (!((decide ((l_n27 : Int) = 1)) == (decide ((Int.tmod i21 (IntKind.i64.wrap (1 + (Int.tmod (IntKind.i64.wrap interval1) 50)))) = 0))))) 60 rfl rfl hb32) rfl ?_
                refine WL_val gd0 ((o_pickT (v := .bool true) rfl hb32 rfl) _) rfl ?_
                refine WL_nil ?_
                refine nrm ?_
                refine WC_cond (t := true) rfl (fun _ => ?_) (fun hx => by rw [(rfl : true = true)] at hx; cases hx)
                refine WC_seq ?_
                refine WC_region ?_
                refine WL_val gd0 ((o_assign (v := .bool false) rfl) _) rfl ?_
                refine WL_nil ?_
                refine nrm ?_
                refine WC_ret ?_
                refine rtB ?_
                refine rtT ?_
                refine rtT ?_
                refine rtB ?_
                refine rtT ?_
                refine rtE ?_
                exact gv1 rfl rfl h
              · rw [if_neg (neT hb32)] at h
                refine WL_val (gdY (b := (!((decide ((l_n27 : Int) = 1)) == (decide ((Int.tmod i21 (IntKind.i64.wrap (1 + (Int.tmod (IntKind.i64.wrap interval1) 50)))) = 0))))) 60 rfl rfl hb32) ((o_move (v := .slice l_a26 l_n27 l_c28) rfl) _) rfl ?_
                refine WL_val (gdY (b := (!((decide ((l_n27 : Int) = 1)) == (decide ((Int.tmod i21 (IntKind.i64.wrap (1 + (Int.tmod (IntKind.i64.wrap interval1) 50)))) = 0))))) 60 rfl rfl hb32) ((o_len Try.underlying36 rfl) _) rfl ?_
                refine WL_val (gdY (b := (!((decide ((l_n27 : Int) = 1)) == (decide ((Int.tmod i21 (IntKind.i64.wrap (1 + (Int.tmod (IntKind.i64.wrap interval1) 50)))) = 0))))) 60 rfl rfl hb32) ((o_eql rfl rfl) _) rfl ?_
                refine WL_val (gdY (b := (!((decide ((l_n27 : Int) = 1)) == (decide ((Int.tmod i21 (IntKind.i64.wrap (1 + (Int.tmod (IntKind.i64.wrap interval1) 50)))) = 0))))) 60 rfl rfl hb32) ((o_move (v := .bool (decide ((l_n27 : Int) = 1))) rfl) _) rfl ?_
                refine bsplit (decide ((l_n27 : Int) = 1)) (fun hb33 => ?_) (fun hb33 => ?_)
                · rw [if_pos (of_decide_eq_true hb33)] at h
                  refine WL_val (gdY (b := (decide ((l_n27 : Int) = 1))) 64 rfl rfl hb33) ((o_move (v := .slice l_a26 l_n27 l_c28) rfl) _) rfl ?_
                  obtain ⟨p36, q37, h⟩ := h
                  obtain ⟨l34, u35, h⟩ := h
                  refine WL_val (gdY (b := (decide ((l_n27 : Int) = 1))) 64 rfl rfl hb33) ((o_indexAddr Try.underlying36 Try.sizeOf40 (by exact (congrArg (fun z => Value.slice z l_n27 l_c28) q37)) rfl l34 u35) _) rfl ?_
                  refine WL_val (gdY (b := (decide ((l_n27 : Int) = 1))) 64 rfl rfl hb33) ((o_fieldAddr 1 Try.underlying40 rfl Try.sizeOf3 rfl rfl rfl) _) rfl ?_
                  obtain ⟨x38, hc39, h⟩ := h
                  refine WL_val (gdY (b := (decide ((l_n27 : Int) = 1))) 64 rfl rfl hb33) (o_load Try.isAgg3 rfl hc39) rfl ?_
                  refine WL_val (gdY (b := (decide ((l_n27 : Int) = 1))) 64 rfl rfl hb33) ((o_move (v := .int .i64 (IntKind.i64.wrap start2)) (by exact e9_19)) _) rfl ?_
                  refine WL_val (gdY (b := (decide ((l_n27 : Int) = 1))) 64 rfl rfl hb33) ((o_move (v := .int .i64 i21) (by exact e10_20)) _) rfl ?_
                  refine WL_val (gdY (b := (decide ((l_n27 : Int) = 1))) 64 rfl rfl hb33) ((o_add rfl rfl) _) rfl ?_
                  refine WL_val (gdY (b := (decide ((l_n27 : Int) = 1))) 64 rfl rfl hb33) ((o_neq rfl rfl) _) rfl ?_
                  refine WL_val (gdY (b := (!((decide ((l_n27 : Int) = 1)) == (decide ((Int.tmod i21 (IntKind.i64.wrap (1 + (Int.tmod (IntKind.i64.wrap interval1) 50)))) = 0))))) 60 rfl rfl hb32) ((o_pickT (v := .bool (decide (x38 ≠ (IntKind.i64.wrap ((IntKind.i64.wrap start2) + i21))))) rfl hb33 rfl) _) rfl ?_
                  refine WL_val gd0 ((o_pickF (v := .bool (decide (x38 ≠ (IntKind.i64.wrap ((IntKind.i64.wrap start2) + i21))))) rfl hb32 rfl) _) rfl ?_
                  refine WL_nil ?_
                  refine nrm ?_
                  refine WC_cond (t := (decide (x38 ≠ (IntKind.i64.wrap ((IntKind.i64.wrap start2) + i21))))) rfl (fun hb40 => ?_) (fun hb40 => ?_)
                  · rw [if_pos (of_decide_eq_true hb40)] at h
                    refine WC_seq ?_
                    refine WC_region ?_
                    refine WL_val gd0 ((o_assign (v := .bool false) rfl) _) rfl ?_
                    refine WL_nil ?_
                    refine nrm ?_
                    refine WC_ret ?_
                    refine rtB ?_
                    refine rtT ?_
                    refine rtT ?_
                    refine rtB ?_
                    refine rtT ?_
                    refine rtE ?_
                    exact gv1 rfl rfl h
                  · rw [if_neg (of_decide_eq_false hb40)] at h
                    refine WC_skip ?_
                    refine nrmB ?_
                    refine nrm ?_
                    refine WC_region ?_
                    refine WL_val gd0 ((o_move (v := .int .i64 i21) (by exact e10_20)) _) rfl ?_
                    refine WL_val gd0 ((o_add rfl rfl) _) rfl ?_
                    refine WL_val gd0 ((o_assign (v := .int .i64 (IntKind.i64.wrap (i21 + 1))) rfl) _) rfl ?_
                    refine WL_nil ?_
                    refine nrm ?_
                    obtain ⟨m23, hm23, h⟩ := h
                    exact ⟨m23, hm23, _, rfl, e2_16, e7_17, e8_18, e9_19, h⟩
                · rw [if_neg (of_decide_eq_false hb33)] at h
                  refine WL_skip (gdN (b := (decide ((l_n27 : Int) = 1))) 64 rfl rfl hb33) rfl ?_
                  refine WL_skip (gdN (b := (decide ((l_n27 : Int) = 1))) 64 rfl rfl hb33) rfl ?_
                  refine WL_skip (gdN (b := (decide ((l_n27 : Int) = 1))) 64 rfl rfl hb33) rfl ?_
                  refine WL_skip (gdN (b := (decide ((l_n27 : Int) = 1))) 64 rfl rfl hb33) rfl ?_
                  refine WL_skip (gdN (b := (decide ((l_n27 : Int) = 1))) 64 rfl rfl hb33) rfl ?_
                  refine WL_skip (gdN (b := (decide ((l_n27 : Int) = 1))) 64 rfl rfl hb33) rfl ?_
                  refine WL_skip (gdN (b := (decide ((l_n27 : Int) = 1))) 64 rfl rfl hb33) rfl ?_
                  refine WL_skip (gdN (b := (decide ((l_n27 : Int) = 1))) 64 rfl rfl hb33) rfl ?_
                  refine WL_val (gdY (b := (!((decide ((l_n27 : Int) = 1)) == (decide ((Int.tmod i21 (IntKind.i64.wrap (1 + (Int.tmod (IntKind.i64.wrap interval1) 50)))) = 0))))) 60 rfl rfl hb32) ((o_pickF (v := .bool false) rfl hb33 rfl) _) rfl ?_
                  refine WL_val gd0 ((o_pickF (v := .bool false) rfl hb32 rfl) _) rfl ?_
                  refine WL_nil ?_
                  refine nrm ?_
                  refine WC_cond (t := false) rfl (fun hx => by rw [(rfl : false = false)] at hx; cases hx) (fun _ => ?_)
                  refine WC_skip ?_
                  refine nrmB ?_
                  refine nrm ?_
                  refine WC_region ?_
                  refine WL_val gd0 ((o_move (v := .int .i64 i21) (by exact e10_20)) _) rfl ?_
                  refine WL_val gd0 ((o_add rfl rfl) _) rfl ?_
                  refine WL_val gd0 ((o_assign (v := .int .i64 (IntKind.i64.wrap (i21 + 1))) rfl) _) rfl ?_
                  refine WL_nil ?_
                  refine nrm ?_
                  obtain ⟨m23, hm23, h⟩ := h
                  exact ⟨m23, hm23, _, rfl, e2_16, e7_17, e8_18, e9_19, h⟩
            · rw [if_neg (of_decide_eq_false hb30)] at h
              refine WL_skip (gdN (b := (decide (0 < i21))) 52 rfl rfl hb30) rfl ?_
              refine WL_skip (gdN (b := (decide (0 < i21))) 52 rfl rfl hb30) rfl ?_
              refine WL_skip (gdN (b := (decide (0 < i21))) 52 rfl rfl hb30) rfl ?_
              refine WL_skip (gdN (b := (decide (0 < i21))) 52 rfl rfl hb30) rfl ?_
              refine WL_val (gdY (b := (decide (1 < (l_n27 : Int)))) 46 rfl rfl hb29) ((o_pickF (v := .bool false) rfl hb30 rfl) _) rfl ?_
              refine WL_val (gdY (b := (decide (1 < (l_n27 : Int)))) 46 rfl rfl hb29) ((o_neqBool Try.underlying4 rfl rfl) _) rfl ?_
              refine WL_val gd0 ((o_pickF (v := .bool (!((decide ((l_n27 : Int) = 1)) == false))) rfl hb29 rfl) _) rfl ?_
              refine WL_val gd0 ((o_move (v := .bool (!((decide ((l_n27 : Int) = 1)) == false))) rfl) _) rfl ?_
              refine bsplit (!((decide ((l_n27 : Int) = 1)) == false)) (fun hb41 => ?_) (fun hb41 => ?_)
              · rw [if_pos hb41] at h
                refine WL_skip (gdN (b := (!((decide ((l_n27 : Int) = 1)) == false))) 60 rfl rfl hb41) rfl ?_
                refine WL_skip (gdN (b := (!((decide ((l_n27 : Int) = 1)) == false))) 60 rfl rfl hb41) rfl ?_
                refine WL_skip (gdN (b := (!((decide ((l_n27 : Int) = 1)) == false))) 60 rfl rfl hb41) rfl ?_
                refine WL_skip (gdN (b := (!((decide ((l_n27 : Int) = 1)) == false))) 60 rfl rfl hb41) rfl ?_
                refine WL_skip (gdU 64 rfl rfl) rfl ?_
                refine WL_skip (gdU 64 rfl rfl) rfl ?_
                refine WL_skip (gdU 64 rfl rfl) rfl ?_
                refine WL_skip (gdU 64 rfl rfl) rfl ?_
                refine WL_skip (gdU 64 rfl rfl) rfl ?_
                refine WL_skip (gdU 64 rfl rfl) rfl ?_
                refine WL_skip (gdU 64 rfl rfl) rfl ?_
                refine WL_skip (gdU 64 rfl rfl) rfl ?_
                refine WL_skip (gdN (b := (!((decide ((l_n27 : Int) = 1)) == false))) 60 rfl rfl hb41) rfl ?_
                refine WL_val gd0 ((o_pickT (v := .bool true) rfl hb41 rfl) _) rfl ?_
                refine WL_nil ?_
                refine nrm ?_
                refine WC_cond (t := true) rfl (fun _ => ?_) (fun hx => by rw [(rfl : true = true)] at hx; cases hx)
                refine WC_seq ?_
                refine WC_region ?_
                refine WL_val gd0 ((o_assign (v := .bool false) rfl) _) rfl ?_
                refine WL_nil ?_
                refine nrm ?_
                refine WC_ret ?_
                refine rtB ?_
                refine rtT ?_
                refine rtT ?_
                refine rtB ?_
                refine rtT ?_
                refine rtE ?_
                exact gv1 rfl rfl h
              · rw [if_neg (neT hb41)] at h
                refine WL_val (gdY (b := (!((decide ((l_n27 : Int) = 1)) == false))) 60 rfl rfl hb41) ((o_move (v := .slice l_a26 l_n27 l_c28) rfl) _) rfl ?_
                refine WL_val (gdY (b := (!((decide ((l_n27 : Int) = 1)) == false))) 60 rfl rfl hb41) ((o_len Try.underlying36 rfl) _) rfl ?_
                refine WL_val (gdY (b := (!((decide ((l_n27 : Int) = 1)) == false))) 60 rfl rfl hb41) ((o_eql rfl rfl) _) rfl ?_
                refine WL_val (gdY (b := (!((decide ((l_n27 : Int) = 1)) == false))) 60 rfl rfl hb41) ((o_move (v := .bool (decide ((l_n27 : Int) = 1))) rfl) _) rfl ?_
                refine bsplit (decide ((l_n27 : Int) = 1)) (fun hb42 => ?_) (fun hb42 => ?_)
                · rw [if_pos (of_decide_eq_true hb42)] at h
                  refine WL_val (gdY (b := (decide ((l_n27 : Int) = 1))) 64 rfl rfl hb42) ((o_move (v := .slice l_a26 l_n27 l_c28) rfl) _) rfl ?_
                  obtain ⟨p45, q46, h⟩ := h
                  obtain ⟨l43, u44, h⟩ := h
                  refine WL_val (gdY (b := (decide ((l_n27 : Int) = 1))) 64 rfl rfl hb42) ((o_indexAddr Try.underlying36 Try.sizeOf40 (by exact (congrArg (fun z => Value.slice z l_n27 l_c28) q46)) rfl l43 u44) _) rfl ?_
                  refine WL_val (gdY (b := (decide ((l_n27 : Int) = 1))) 64 rfl rfl hb42) ((o_fieldAddr 1 Try.underlying40 rfl Try.sizeOf3 rfl rfl rfl) _) rfl ?_
                  obtain ⟨x47, hc48, h⟩ := h
                  refine WL_val (gdY (b := (decide ((l_n27 : Int) = 1))) 64 rfl rfl hb42) (o_load Try.isAgg3 rfl hc48) rfl ?_
                  refine WL_val (gdY (b := (decide ((l_n27 : Int) = 1))) 64 rfl rfl hb42) ((o_move (v := .int .i64 (IntKind.i64.wrap start2)) (by exact e9_19)) _) rfl ?_
                  refine WL_val (gdY (b := (decide ((l_n27 : Int) = 1))) 64 rfl rfl hb42) ((o_move (v := .int .i64 i21) (by exact e10_20)) _) rfl ?_
                  refine WL_val (gdY (b := (decide ((l_n27 : Int) = 1))) 64 rfl rfl hb42) ((o_add rfl rfl) _) rfl ?_
                  refine WL_val (gdY (b := (decide ((l_n27 : Int) = 1))) 64 rfl rfl hb42) ((o_neq rfl rfl) _) rfl ?_
                  refine WL_val (gdY (b := (!((decide ((l_n27 : Int) = 1)) == false))) 60 rfl rfl hb41) ((o_pickT (v := .bool (decide (x47 ≠ (IntKind.i64.wrap ((IntKind.i64.wrap start2) + i21))))) rfl hb42 rfl) _) rfl ?_
                  refine WL_val gd0 ((o_pickF (v := .bool (decide (x47 ≠ (IntKind.i64.wrap ((IntKind.i64.wrap start2) + i21))))) rfl hb41 rfl) _) rfl ?_
                  refine WL_nil ?_
                  refine nrm ?_
                  refine WC_cond (t := (decide (x47 ≠ (IntKind.i64.wrap ((IntKind.i64.wrap start2) + i21))))) rfl (fun hb49 => ?_) (fun hb49 => ?_)
                  · rw [if_pos (of_decide_eq_true hb49)] at h
                    refine WC_seq ?_
                    refine WC_region ?_
                    refine WL_val gd0 ((o_assign (v := .bool false) rfl) _) rfl ?_
                    refine WL_nil ?_
                    refine nrm ?_
                    refine WC_ret ?_
                    refine rtB ?_
                    refine rtT ?_
                    refine rtT ?_
                    refine rtB ?_
                    refine rtT ?_
                    refine rtE ?_
                    exact gv1 rfl rfl h
                  · rw [if_neg (of_decide_eq_false hb49)] at h
                    refine WC_skip ?_
                    refine nrmB ?_
                    refine nrm ?_
                    refine WC_region ?_
                    refine WL_val gd0 ((o_move (v := .int .i64 i21) (by exact e10_20)) _) rfl ?_
                    refine WL_val gd0 ((o_add rfl rfl) _) rfl ?_
                    refine WL_val gd0 ((o_assign (v := .int .i64 (IntKind.i64.wrap (i21 + 1))) rfl) _) rfl ?_
                    refine WL_nil ?_
                    refine nrm ?_
                    obtain ⟨m23, hm23, h⟩ := h
                    exact ⟨m23, hm23, _, rfl, e2_16, e7_17, e8_18, e9_19, h⟩
                · rw [if_neg (of_decide_eq_false hb42)] at h
                  refine WL_skip (gdN (b := (decide ((l_n27 : Int) = 1))) 64 rfl rfl hb42) rfl ?_
                  refine WL_skip (gdN (b := (decide ((l_n27 : Int) = 1))) 64 rfl rfl hb42) rfl ?_
                  refine WL_skip (gdN (b := (decide ((l_n27 : Int) = 1))) 64 rfl rfl hb42) rfl ?_
                  refine WL_skip (gdN (b := (decide ((l_n27 : Int) = 1))) 64 rfl rfl hb42) rfl ?_
                  refine WL_skip (gdN (b := (decide ((l_n27 : Int) = 1))) 64 rfl rfl hb42) rfl ?_
                  refine WL_skip (gdN (b := (decide ((l_n27 : Int) = 1))) 64 rfl rfl hb42) rfl ?_
                  refine WL_skip (gdN (b := (decide ((l_n27 : Int) = 1))) 64 rfl rfl hb42) rfl ?_
                  refine WL_skip (gdN (b := (decide ((l_n27 : Int) = 1))) 64 rfl rfl hb42) rfl ?_
                  refine WL_val (gdY (b := (!((decide ((l_n27 : Int) = 1)) == false))) 60 rfl rfl hb41) ((o_pickF (v := .bool false) rfl hb42 rfl) _) rfl ?_
                  refine WL_val gd0 ((o_pickF (v := .bool false) rfl hb41 rfl) _) rfl ?_
                  refine WL_nil ?_
                  refine nrm ?_
                  refine WC_cond (t := false) rfl (fun hx => by rw [(rfl : false = false)] at hx; cases hx) (fun _ => ?_)
                  refine WC_skip ?_
                  refine nrmB ?_
                  refine nrm ?_
                  refine WC_region ?_
                  refine WL_val gd0 ((o_move (v := .int .i64 i21) (by exact e10_20)) _) rfl ?_
                  refine WL_val gd0 ((o_add rfl rfl) _) rfl ?_
                  refine WL_val gd0 ((o_assign (v := .int .i64 (IntKind.i64.wrap (i21 + 1))) rfl) _) rfl ?_
                  refine WL_nil ?_
                  refine nrm ?_
                  obtain ⟨m23, hm23, h⟩ := h
                  exact ⟨m23, hm23, _, rfl, e2_16, e7_17, e8_18, e9_19, h⟩
        · rw [if_neg (of_decide_eq_false hb24)] at h
          refine WC_exit ?_
          refine exT ?_
          refine exT ?_
          refine exB ?_
          refine nrm ?_
          refine WC_seq ?_
          refine WC_region ?_
          refine WL_val gd0 ((o_move (v := .pointer s6) (by exact e7_17)) _) rfl ?_
          refine WL_val gd0 ((o_move (v := .int .i64 (IntKind.i64.wrap start2)) (by exact e9_19)) _) rfl ?_
          refine WL_call gd0 (o_call Try.call13 (argCons rfl (argCons rfl (argCons rfl (argCons rfl argNil)))) _) rfl (h.mono ?_)
          rintro _ w50 ⟨x51, rfl, h⟩
          refine WL_val gd0 ((o_eql rfl rfl) _) rfl ?_
          refine WL_val gd0 ((o_move (v := .bool (decide (x51 = 0))) rfl) _) rfl ?_
          refine bsplit (decide (x51 = 0)) (fun hb52 => ?_) (fun hb52 => ?_)
          · rw [if_pos (of_decide_eq_true hb52)] at h
            refine WL_val (gdY (b := (decide (x51 = 0))) 79 rfl rfl hb52) ((o_move (v := .pointer s6) (by exact e7_17)) _) rfl ?_
            refine WL_val (gdY (b := (decide (x51 = 0))) 79 rfl rfl hb52) ((o_move (v := .int .i64 (IntKind.i64.wrap start2)) (by exact e9_19)) _) rfl ?_
            refine WL_val (gdY (b := (decide (x51 = 0))) 79 rfl rfl hb52) ((o_add rfl rfl) _) rfl ?_
            refine WL_call (gdY (b := (decide (x51 = 0))) 79 rfl rfl hb52) (o_call Try.call14 (argCons rfl (argCons rfl (argCons rfl argNil))) _) rfl (h.mono ?_)
            rintro _ w53 ⟨x_a54, x_n55, x_c56, rfl, h⟩
            refine WL_val (gdY (b := (decide (x51 = 0))) 79 rfl rfl hb52) ((o_len Try.underlying36 rfl) _) rfl ?_
            refine WL_val (gdY (b := (decide (x51 = 0))) 79 rfl rfl hb52) ((o_eql rfl rfl) _) rfl ?_
            refine WL_val gd0 ((o_pickT (v := .bool (decide ((x_n55 : Int) = 0))) rfl hb52 rfl) _) rfl ?_
            refine WL_val gd0 ((o_move (v := .bool (decide ((x_n55 : Int) = 0))) rfl) _) rfl ?_
            refine bsplit (decide ((x_n55 : Int) = 0)) (fun hb57 => ?_) (fun hb57 => ?_)
            · rw [if_pos (of_decide_eq_true hb57)] at h
              refine WL_call (gdY (b := (decide ((x_n55 : Int) = 0))) 87 rfl rfl hb57) (o_call Try.call12 argNil _) rfl (h.mono ?_)
              rintro _ w58 ⟨x59, rfl, h⟩
              refine WL_val gd0 ((o_pickT (v := .bool x59) rfl hb57 rfl) _) rfl ?_
              refine WL_val gd0 ((o_assign (v := .bool x59) rfl) _) rfl ?_
              refine WL_nil ?_
              refine nrm ?_
              refine WC_ret ?_
              refine rtE ?_
              exact gv1 rfl rfl h
            · rw [if_neg (of_decide_eq_false hb57)] at h
              refine WL_skip (gdN (b := (decide ((x_n55 : Int) = 0))) 87 rfl rfl hb57) rfl ?_
              refine WL_val gd0 ((o_pickF (v := .bool false) rfl hb57 rfl) _) rfl ?_
              refine WL_val gd0 ((o_assign (v := .bool false) rfl) _) rfl ?_
              refine WL_nil ?_
              refine nrm ?_
              refine WC_ret ?_
              refine rtE ?_
              exact gv1 rfl rfl h
          · rw [if_neg (of_decide_eq_false hb52)] at h
            refine WL_skip (gdN (b := (decide (x51 = 0))) 79 rfl rfl hb52) rfl ?_
            refine WL_skip (gdN (b := (decide (x51 = 0))) 79 rfl rfl hb52) rfl ?_
            refine WL_skip (gdN (b := (decide (x51 = 0))) 79 rfl rfl hb52) rfl ?_
            refine WL_skip (gdN (b := (decide (x51 = 0))) 79 rfl rfl hb52) rfl ?_
            refine WL_skip (gdN (b := (decide (x51 = 0))) 79 rfl rfl hb52) rfl ?_
            refine WL_skip (gdN (b := (decide (x51 = 0))) 79 rfl rfl hb52) rfl ?_
            refine WL_val gd0 ((o_pickF (v := .bool false) rfl hb52 rfl) _) rfl ?_
            refine WL_val gd0 ((o_move (v := .bool false) rfl) _) rfl ?_
            refine WL_skip (gdN (b := false) 87 rfl rfl rfl) rfl ?_
            refine WL_val gd0 ((o_pickF (v := .bool false) rfl rfl rfl) _) rfl ?_
            refine WL_val gd0 ((o_assign (v := .bool false) rfl) _) rfl ?_
            refine WL_nil ?_
            refine nrm ?_
            refine WC_ret ?_
            refine rtE ?_
            exact gv1 rfl rfl h

def F5_b4 (l_n61 : Nat) (l_a60 : Option Addr) (p40 : Addr) (p8 : Addr) (now47 : Int) (x57 : Int) (i49 : Int) (k71 : Int) (w72 : World) (k : Value → World → Prop) (nx72 : Int → World → Prop) (nx50 : Int → Int → World → Prop) : Prop :=
  if k71 < (l_n61 : Int) then
  ∃ (p77 : Addr), l_a60 = some p77 ∧ (0 : Int) ≤ k71 ∧ k71 < (l_n61 : Int) ∧ ∃ (id79 : Int), w72.cell? (p77.add (k71.toNat * 3)) = some (.int .i64 id79) ∧ if id79 < 0 then
    k (.bool false) w72.drew
  else
    if 2 < id79 then
      k (.bool false) w72.drew
    else
      if 0 < k71 then
        (0 : Int) ≤ IntKind.i64.wrap (k71 - 1) ∧ IntKind.i64.wrap (k71 - 1) < (l_n61 : Int) ∧ ∃ (x86 : Int), w72.drew.cell? (p77.add (((IntKind.i64.wrap (k71 - 1)).toNat) * 3)) = some (.int .i64 x86) ∧ if id79 ≤ x86 then
          k (.bool false) w72.drew
        else
          (0 : Int) ≤ id79 ∧ id79 < (3 : Int) ∧ ∃ (x91 : Int), w72.drew.cell? (p40.add id79.toNat) = some (.int .i64 x91) ∧ (0 : Int) ≤ id79 ∧ id79 < (3 : Int) ∧ ∃ (x95 : Int), w72.drew.cell? (p8.add id79.toNat) = some (.int .u8 x95) ∧ if (IntKind.i64.wrap ((IntKind.i64.wrap (now47 + (IntKind.i64.wrap x57))) - x91)) < (IntKind.i64.wrap (1 + (IntKind.i64.wrap x95))) then
            k (.bool false) w72.drew
          else
            (0 : Int) ≤ id79 ∧ id79 < (3 : Int) ∧ Put w72.drew (p40.add id79.toNat) (.int .i64 (IntKind.i64.wrap (now47 + (IntKind.i64.wrap x57)))) (fun w100 => nx72 (IntKind.i64.wrap (k71 + 1)) w100)
      else
        (0 : Int) ≤ id79 ∧ id79 < (3 : Int) ∧ ∃ (x104 : Int), w72.drew.cell? (p40.add id79.toNat) = some (.int .i64 x104) ∧ (0 : Int) ≤ id79 ∧ id79 < (3 : Int) ∧ ∃ (x108 : Int), w72.drew.cell? (p8.add id79.toNat) = some (.int .u8 x108) ∧ if (IntKind.i64.wrap ((IntKind.i64.wrap (now47 + (IntKind.i64.wrap x57))) - x104)) < (IntKind.i64.wrap (1 + (IntKind.i64.wrap x108))) then
          k (.bool false) w72.drew
        else
          (0 : Int) ≤ id79 ∧ id79 < (3 : Int) ∧ Put w72.drew (p40.add id79.toNat) (.int .i64 (IntKind.i64.wrap (now47 + (IntKind.i64.wrap x57)))) (fun w113 => nx72 (IntKind.i64.wrap (k71 + 1)) w113)
else
  nx50 (IntKind.i64.wrap (now47 + (IntKind.i64.wrap x57))) (IntKind.i64.wrap (i49 + 1)) w72
def F5_b3 (steps_n5 : Nat) (steps_a4 : Option Addr) (s11 : Option Addr) (p40 : Addr) (p8 : Addr) (now47 : Int) (i49 : Int) (w50 : World) (k : Value → World → Prop) (nx50 : Int → Int → World → Prop) : Prop :=
  if i49 < (steps_n5 : Int) then
  ∃ (p55 : Addr), steps_a4 = some p55 ∧ (0 : Int) ≤ i49 ∧ i49 < (steps_n5 : Int) ∧ ∃ (x57 : Int), w50.cell? (p55.add i49.toNat) = some (.int .u8 x57) ∧ Does Try.prog 14 #[.pointer s11, .int .i64 (IntKind.i64.wrap (now47 + (IntKind.i64.wrap x57))), .pointer none] w50 (fun v w59 => ∃ (l_a60 : Option Addr) (l_n61 l_c62 : Nat), v = .slice l_a60 l_n61 l_c62 ∧ LoopP (fun (s : Int) w' nx' => F5_b4 l_n61 l_a60 p40 p8 now47 x57 i49 s w' k (fun x0 w => nx' x0 w) nx50) 0 w59)
else
  Does Try.prog 12 #[] w50 (fun v w115 => ∃ (t116 : Bool), v = .bool t116 ∧ k (.bool t116) w115)
def F5_b2 (p8 : Addr) (s11 : Option Addr) (steps_n5 : Nat) (steps_a4 : Option Addr) (k26 : Int) (w27 : World) (nx27 : Int → World → Prop) (k : Value → World → Prop) : Prop :=
  if k26 < 3 then
  (0 : Int) ≤ k26 ∧ k26 < (3 : Int) ∧ ∃ (x32 : Int), w27.cell? (p8.add k26.toNat) = some (.int .u8 x32) ∧ New w27 3 [.int .i64 k26] (fun p34 w35 => Does Try.prog 9 #[.pointer s11, .int .i64 k26, .int .i64 (IntKind.i64.wrap (1 + (IntKind.i64.wrap x32))), .slice (some p34) 1 1] w35 (fun v w36 => ∃ (x37 : Int), v = .int .i64 x37 ∧ Does Try.prog 13 #[.pointer s11, .int .i64 k26, .bool true, .int .i64 0] w36 (fun v w38 => ∃ (x39 : Int), v = .int .i64 x39 ∧ nx27 (IntKind.i64.wrap (k26 + 1)) w38)))
else
  New w27 3 [.int .i64 0, .int .i64 0, .int .i64 0] (fun p40 w41 => LoopP (fun (s : Int × Int) w' nx' => F5_b3 steps_n5 steps_a4 s11 p40 p8 (s.1) (s.2) w' k (fun x0 x1 w => nx' (x0, x1) w)) (0, 0) w41)
def F5_j1 (s11 : Option Addr) (p8 : Addr) (steps_n5 : Nat) (steps_a4 : Option Addr) (t16 : Bool) (w17 : World) (k : Value → World → Prop) : Prop :=
  if t16 = true then
  if (!(s11).isNone) = true then
    Does Try.prog 12 #[] w17 (fun v w20 => ∃ (x21 : Bool), v = .bool x21 ∧ k (.bool x21) w20)
  else
    k (.bool false) w17
else
  LoopP (fun (s : Int) w' nx' => F5_b2 p8 s11 steps_n5 steps_a4 s w' (fun x0 w => nx' x0 w) k) 0 w17
/-- spacecraft spacecraftlaw34.HkApart -/
def F5 (intervals1 : Int) (intervals2 : Int) (intervals3 : Int) (steps_a4 : Option Addr) (steps_n5 : Nat) (steps_c6 : Nat) (w7 : World) (k : Value → World → Prop) : Prop :=
  New w7 42 [.int .u8 intervals1, .int .u8 intervals2, .int .u8 intervals3] (fun p8 w9 => Does Try.prog 8 #[] w9 (fun v w10 => ∃ (s11 : Option Addr), v = .pointer s11 ∧ if 100 < (steps_n5 : Int) then
  F5_j1 s11 p8 steps_n5 steps_a4 true w10 k
else
  F5_j1 s11 p8 steps_n5 steps_a4 ((s11).isNone) w10 k))
set_option maxRecDepth 100000 in
set_option maxHeartbeats 2000000 in
theorem w5 (intervals1 : Int) (intervals2 : Int) (intervals3 : Int) (steps_a4 : Option Addr) (steps_n5 : Nat) (steps_c6 : Nat) (w7 : World) (k : Value → World → Prop) (h : F5 intervals1 intervals2 intervals3 steps_a4 steps_n5 steps_c6 w7 k) : Does Try.prog 5 #[.agg #[.int .u8 intervals1, .int .u8 intervals2, .int .u8 intervals3], .slice steps_a4 steps_n5 steps_c6] w7 k := by
  refine enter 110 Try.func5 rfl rfl rfl ?_
  intro ρ hρ
  have e0 := hρ 0 _ rfl
  have e1 := hρ 1 _ rfl
  unfold F5 at h
  refine WC_seq ?_
  refine WC_region ?_
  have h := New.out h
  refine WL_val gd0 (o_box (v := .agg #[.int .u8 intervals1, .int .u8 intervals2, .int .u8 intervals3]) (cs := [.int .u8 intervals1, .int .u8 intervals2, .int .u8 intervals3]) (by exact e0) rfl) rfl ?_
  generalize hp8 : fresh w7 = p8 at h ⊢
  generalize hw9 : push w7 42 [.int .u8 intervals1, .int .u8 intervals2, .int .u8 intervals3] = w9 at h ⊢
  try dsimp only at h
  refine WL_val gd0 ((o_assign (v := .bool false) rfl) _) rfl ?_
  refine WL_nil ?_
  refine nrm ?_
  refine WC_seq ?_
  refine WC_region ?_
  refine WL_call gd0 (o_call Try.call8 argNil _) rfl (h.mono ?_)
  rintro _ w10 ⟨s11, rfl, h⟩
  refine WL_val gd0 ((o_assign (v := .pointer s11) rfl) _) rfl ?_
  refine WL_nil ?_
  refine nrm ?_
  refine WC_seq ?_
  refine WC_cut (fun ρ w' => ∃ (t16 : Bool), ρ 20 = .bool t16 ∧ ρ 1 = .slice steps_a4 steps_n5 steps_c6 ∧ ρ 2 = .pointer (some p8) ∧ ρ 5 = .pointer s11 ∧ F5_j1 s11 p8 steps_n5 steps_a4 t16 w' k) ?_ ?_
  · refine WC_region ?_
    refine WL_val gd0 ((o_move (v := .slice steps_a4 steps_n5 steps_c6) (by exact e1)) _) rfl ?_
    refine WL_val gd0 ((o_len Try.underlying38 rfl) _) rfl ?_
    refine WL_val gd0 ((o_gtr rfl rfl) _) rfl ?_
    refine WL_val gd0 ((o_move (v := .bool (decide (100 < (steps_n5 : Int)))) rfl) _) rfl ?_
    refine bsplit (decide (100 < (steps_n5 : Int))) (fun hb117 => ?_) (fun hb117 => ?_)
    · rw [if_pos (of_decide_eq_true hb117)] at h
      refine WL_skip (gdN (b := (decide (100 < (steps_n5 : Int)))) 17 rfl rfl hb117) rfl ?_
      refine WL_skip (gdN (b := (decide (100 < (steps_n5 : Int)))) 17 rfl rfl hb117) rfl ?_
      refine WL_val gd0 ((o_pickT (v := .bool true) rfl hb117 rfl) _) rfl ?_
      refine WL_nil ?_
      refine nrm ?_
      exact ⟨_, rfl, e1, rfl, rfl, h⟩
    · rw [if_neg (of_decide_eq_false hb117)] at h
      refine WL_val (gdY (b := (decide (100 < (steps_n5 : Int)))) 17 rfl rfl hb117) ((o_move (v := .pointer s11) rfl) _) rfl ?_
      refine WL_val (gdY (b := (decide (100 < (steps_n5 : Int)))) 17 rfl rfl hb117) ((o_eqlPtrNil Try.underlying22 rfl rfl) _) rfl ?_
      refine WL_val gd0 ((o_pickF (v := .bool ((s11).isNone)) rfl hb117 rfl) _) rfl ?_
      refine WL_nil ?_
      refine nrm ?_
      exact ⟨_, rfl, e1, rfl, rfl, h⟩
  · rintro ρ w17 ⟨t16, e20_15, e1_12, e2_13, e5_14, h⟩
    unfold F5_j1 at h
    refine WC_cond (t := t16) (by exact e20_15) (fun hb18 => ?_) (fun hb18 => ?_)
    · rw [if_pos hb18] at h
      refine WC_seq ?_
      refine WC_region ?_
      refine WL_val gd0 ((o_move (v := .pointer s11) (by exact e5_14)) _) rfl ?_
      refine WL_val gd0 ((o_neqPtrNil Try.underlying22 rfl rfl) _) rfl ?_
      refine WL_val gd0 ((o_move (v := .bool (!(s11).isNone)) rfl) _) rfl ?_
      refine bsplit (!(s11).isNone) (fun hb19 => ?_) (fun hb19 => ?_)
      · rw [if_pos hb19] at h
        refine WL_call (gdY (b := (!(s11).isNone)) 23 rfl rfl hb19) (o_call Try.call12 argNil _) rfl (h.mono ?_)
        rintro _ w20 ⟨x21, rfl, h⟩
        refine WL_val gd0 ((o_pickT (v := .bool x21) rfl hb19 rfl) _) rfl ?_
        refine WL_val gd0 ((o_assign (v := .bool x21) rfl) _) rfl ?_
        refine WL_nil ?_
        refine nrm ?_
        refine WC_ret ?_
        refine rtT ?_
        refine rtE ?_
        exact gv1 rfl rfl h
      · rw [if_neg (neT hb19)] at h
        refine WL_skip (gdN (b := (!(s11).isNone)) 23 rfl rfl hb19) rfl ?_
        refine WL_val gd0 ((o_pickF (v := .bool false) rfl hb19 rfl) _) rfl ?_
        refine WL_val gd0 ((o_assign (v := .bool false) rfl) _) rfl ?_
        refine WL_nil ?_
        refine nrm ?_
        refine WC_ret ?_
        refine rtT ?_
        refine rtE ?_
        exact gv1 rfl rfl h
    · rw [if_neg (neT hb18)] at h
      refine WC_skip ?_
      refine nrm ?_
      refine WC_seq ?_
      refine WC_seq ?_
      refine WC_region ?_
      refine WL_val gd0 ((o_assign (v := .int .i64 0) rfl) _) rfl ?_
      refine WL_nil ?_
      refine nrm ?_
      refine WC_block ?_
      obtain ⟨J27, ⟨n27, h0⟩, hr27⟩ := h
      refine WC_loop (fun n ρ w' => ∃ (k26 : Int), ρ 6 = .int .i64 k26 ∧ ρ 1 = .slice steps_a4 steps_n5 steps_c6 ∧ ρ 2 = .pointer (some p8) ∧ ρ 5 = .pointer s11 ∧ J27 n k26 w') ⟨n27, _, rfl, e1_12, e2_13, e5_14, h0⟩ ?_
      rintro n27 ρ w27 ⟨k26, e6_25, e1_22, e2_23, e5_24, h⟩
      have h : F5_b2 p8 s11 steps_n5 steps_a4 k26 w27 (fun x0 w => ∃ m, m < n27 ∧ J27 m x0 w) k := hr27 n27 k26 w27 h
      unfold F5_b2 at h
      refine WC_seq ?_
      refine WC_seq ?_
      refine WC_region ?_
      refine WL_val gd0 ((o_move (v := .int .i64 k26) (by exact e6_25)) _) rfl ?_
      refine WL_val gd0 ((o_lss rfl rfl) _) rfl ?_
      refine WL_nil ?_
      refine nrm ?_
      refine WC_cond (t := (decide (k26 < 3))) rfl (fun hb29 => ?_) (fun hb29 => ?_)
      · rw [if_pos (of_decide_eq_true hb29)] at h
        refine WC_skip ?_
        refine nrm ?_
        refine WC_seq ?_
        refine WC_block ?_
        refine WC_seq ?_
        refine WC_region ?_
        refine WL_val gd0 ((o_move (v := .pointer s11) (by exact e5_24)) _) rfl ?_
        refine WL_val gd0 ((o_move (v := .int .i64 k26) (by exact e6_25)) _) rfl ?_
        refine WL_val gd0 ((o_move (v := .int .i64 k26) (by exact e6_25)) _) rfl ?_
        obtain ⟨l30, u31, h⟩ := h
        refine WL_val gd0 ((o_indexAddrArr1 Try.underlying42 Try.sizeOf5 (by exact e2_23) rfl l30 u31) _) rfl ?_
        obtain ⟨x32, hc33, h⟩ := h
        refine WL_val gd0 (o_load Try.isAgg5 rfl hc33) rfl ?_
        refine WL_val gd0 ((o_conv Try.underlying5 Try.underlying3 rfl) _) rfl ?_
        refine WL_val gd0 ((o_add rfl rfl) _) rfl ?_
        refine WL_val gd0 ((o_move (v := .int .i64 k26) (by exact e6_25)) _) rfl ?_
        have h := New.out h
        refine WL_val gd0 (o_buildSlice (e := 3) (ps := [(0, .int .i64 k26)]) (cs := [.int .i64 k26]) (partCons rfl partNil) (fun w => by kernel_rfl)) rfl ?_
        generalize hp34 : fresh w27 = p34 at h ⊢
        generalize hw35 : push w27 3 [.int .i64 k26] = w35 at h ⊢
        try dsimp only at h
        refine WL_call gd0 (o_call Try.call9 (argCons rfl (argCons rfl (argCons rfl (argCons rfl argNil)))) _) rfl (h.mono ?_)
        rintro _ w36 ⟨x37, rfl, h⟩
        refine WL_nil ?_
        refine nrm ?_
        refine WC_region ?_
        refine WL_val gd0 ((o_move (v := .pointer s11) (by exact e5_24)) _) rfl ?_
        refine WL_val gd0 ((o_move (v := .int .i64 k26) (by exact e6_25)) _) rfl ?_
        refine WL_call gd0 (o_call Try.call13 (argCons rfl (argCons rfl (argCons rfl (argCons rfl argNil)))) _) rfl (h.mono ?_)
        rintro _ w38 ⟨x39, rfl, h⟩
        refine WL_nil ?_
        refine nrmB ?_
        refine nrm ?_
        refine WC_region ?_
        refine WL_val gd0 ((o_move (v := .int .i64 k26) (by exact e6_25)) _) rfl ?_
        refine WL_val gd0 ((o_add rfl rfl) _) rfl ?_
        refine WL_val gd0 ((o_assign (v := .int .i64 (IntKind.i64.wrap (k26 + 1))) rfl) _) rfl ?_
        refine WL_nil ?_
        refine nrm ?_
        obtain ⟨m28, hm28, h⟩ := h
        exact ⟨m28, hm28, _, rfl, e1_22, e2_23, e5_24, h⟩
      · rw [if_neg (of_decide_eq_false hb29)] at h
        refine WC_exit ?_
        refine exT ?_
        refine exT ?_
        refine exB ?_
        refine nrm ?_
        refine WC_seq ?_
        refine WC_region ?_
        have h := New.out h
        refine WL_val gd0 (o_buildSlice (e := 3) (ps := [(0, .int .i64 0), (1, .int .i64 0), (2, .int .i64 0)]) (cs := [.int .i64 0, .int .i64 0, .int .i64 0]) (partCons rfl (partCons rfl (partCons rfl partNil))) (fun w => by kernel_rfl)) rfl ?_
        generalize hp40 : fresh w27 = p40 at h ⊢
        generalize hw41 : push w27 3 [.int .i64 0, .int .i64 0, .int .i64 0] = w41 at h ⊢
        try dsimp only at h
        refine WL_val gd0 ((o_assign (v := .slice (some p40) 3 3) rfl) _) rfl ?_
        refine WL_nil ?_
        refine nrm ?_
        refine WC_seq ?_
        refine WC_region ?_
        refine WL_val gd0 ((o_assign (v := .int .i64 0) rfl) _) rfl ?_
        refine WL_nil ?_
        refine nrm ?_
        refine WC_seq ?_
        refine WC_seq ?_
        refine WC_region ?_
        refine WL_val gd0 ((o_assign (v := .int .i64 0) rfl) _) rfl ?_
        refine WL_nil ?_
        refine nrm ?_
        refine WC_block ?_
        obtain ⟨J50, ⟨n50, h0⟩, hr50⟩ := h
        refine WC_loop (fun n ρ w' => ∃ (now47 i49 : Int), ρ 8 = .int .i64 now47 ∧ ρ 9 = .int .i64 i49 ∧ ρ 1 = .slice steps_a4 steps_n5 steps_c6 ∧ ρ 2 = .pointer (some p8) ∧ ρ 5 = .pointer s11 ∧ ρ 7 = .slice (some p40) 3 3 ∧ J50 n (now47, i49) w') ⟨n50, _, _, rfl, rfl, e1_22, e2_23, e5_24, rfl, h0⟩ ?_
        rintro n50 ρ w50 ⟨now47, i49, e8_46, e9_48, e1_42, e2_43, e5_44, e7_45, h⟩
        have h : F5_b3 steps_n5 steps_a4 s11 p40 p8 now47 i49 w50 k (fun x0 x1 w => ∃ m, m < n50 ∧ J50 m (x0, x1) w) := hr50 n50 (now47, i49) w50 h
        unfold F5_b3 at h
        refine WC_seq ?_
        refine WC_seq ?_
        refine WC_region ?_
        refine WL_val gd0 ((o_move (v := .int .i64 i49) (by exact e9_48)) _) rfl ?_
        refine WL_val gd0 ((o_move (v := .slice steps_a4 steps_n5 steps_c6) (by exact e1_42)) _) rfl ?_
        refine WL_val gd0 ((o_len Try.underlying38 rfl) _) rfl ?_
        refine WL_val gd0 ((o_lss rfl rfl) _) rfl ?_
        refine WL_nil ?_
        refine nrm ?_
        refine WC_cond (t := (decide (i49 < (steps_n5 : Int)))) rfl (fun hb52 => ?_) (fun hb52 => ?_)
        · rw [if_pos (of_decide_eq_true hb52)] at h
          refine WC_skip ?_
          refine nrm ?_
          refine WC_seq ?_
          refine WC_block ?_
          refine WC_seq ?_
          refine WC_region ?_
          refine WL_val gd0 ((o_move (v := .int .i64 now47) (by exact e8_46)) _) rfl ?_
          refine WL_val gd0 ((o_move (v := .slice steps_a4 steps_n5 steps_c6) (by exact e1_42)) _) rfl ?_
          refine WL_val gd0 ((o_move (v := .int .i64 i49) (by exact e9_48)) _) rfl ?_
          obtain ⟨p55, q56, h⟩ := h
          obtain ⟨l53, u54, h⟩ := h
          refine WL_val gd0 ((o_indexAddr1 Try.underlying38 Try.sizeOf5 (by exact (congrArg (fun z => Value.slice z steps_n5 steps_c6) q56)) rfl l53 u54) _) rfl ?_
          obtain ⟨x57, hc58, h⟩ := h
          refine WL_val gd0 (o_load Try.isAgg5 rfl hc58) rfl ?_
          refine WL_val gd0 ((o_conv Try.underlying5 Try.underlying3 rfl) _) rfl ?_
          refine WL_val gd0 ((o_add rfl rfl) _) rfl ?_
          refine WL_val gd0 ((o_assign (v := .int .i64 (IntKind.i64.wrap (now47 + (IntKind.i64.wrap x57)))) rfl) _) rfl ?_
          refine WL_nil ?_
          refine nrm ?_
          refine WC_seq ?_
          refine WC_region ?_
          refine WL_val gd0 ((o_move (v := .pointer s11) (by exact e5_44)) _) rfl ?_
          refine WL_val gd0 ((o_move (v := .int .i64 (IntKind.i64.wrap (now47 + (IntKind.i64.wrap x57)))) rfl) _) rfl ?_
          refine WL_call gd0 (o_call Try.call14 (argCons rfl (argCons rfl (argCons rfl argNil))) _) rfl (h.mono ?_)
          rintro _ w59 ⟨l_a60, l_n61, l_c62, rfl, h⟩
          refine WL_val gd0 ((o_assign (v := .slice l_a60 l_n61 l_c62) rfl) _) rfl ?_
          refine WL_nil ?_
          refine nrm ?_
          refine WC_seq ?_
          refine WC_region ?_
          refine WL_val gd0 ((o_assign (v := .int .i64 0) rfl) _) rfl ?_
          refine WL_nil ?_
          refine nrm ?_
          refine WC_block ?_
          obtain ⟨J72, ⟨n72, h0⟩, hr72⟩ := h
          refine WC_loop (fun n ρ w' => ∃ (k71 : Int), ρ 11 = .int .i64 k71 ∧ ρ 1 = .slice steps_a4 steps_n5 steps_c6 ∧ ρ 2 = .pointer (some p8) ∧ ρ 5 = .pointer s11 ∧ ρ 7 = .slice (some p40) 3 3 ∧ ρ 8 = .int .i64 (IntKind.i64.wrap (now47 + (IntKind.i64.wrap x57))) ∧ ρ 9 = .int .i64 i49 ∧ ρ 10 = .slice l_a60 l_n61 l_c62 ∧ J72 n k71 w') ⟨n72, _, rfl, e1_42, e2_43, e5_44, e7_45, rfl, e9_48, rfl, h0⟩ ?_
          rintro n72 ρ w72 ⟨k71, e11_70, e1_63, e2_64, e5_65, e7_66, e8_67, e9_68, e10_69, h⟩
          have h : F5_b4 l_n61 l_a60 p40 p8 now47 x57 i49 k71 w72 k (fun x0 w => ∃ m, m < n72 ∧ J72 m x0 w) (fun x0 x1 w => ∃ m, m < n50 ∧ J50 m (x0, x1) w) := hr72 n72 k71 w72 h
          unfold F5_b4 at h
          refine WC_seq ?_
          refine WC_seq ?_
          refine WC_region ?_
          refine WL_val gd0 ((o_move (v := .int .i64 k71) (by exact e11_70)) _) rfl ?_
          refine WL_val gd0 ((o_move (v := .slice l_a60 l_n61 l_c62) (by exact e10_69)) _) rfl ?_
          refine WL_val gd0 ((o_len Try.underlying36 rfl) _) rfl ?_
          refine WL_val gd0 ((o_lss rfl rfl) _) rfl ?_
          refine WL_nil ?_
          refine nrm ?_
          refine WC_cond (t := (decide (k71 < (l_n61 : Int)))) rfl (fun hb74 => ?_) (fun hb74 => ?_)
          · rw [if_pos (of_decide_eq_true hb74)] at h
            refine WC_skip ?_
            refine nrm ?_
            refine WC_seq ?_
            refine WC_block ?_
            refine WC_seq ?_
            refine WC_region ?_
            refine WL_val gd0 ((o_move (v := .slice l_a60 l_n61 l_c62) (by exact e10_69)) _) rfl ?_
            refine WL_val gd0 ((o_move (v := .int .i64 k71) (by exact e11_70)) _) rfl ?_
            obtain ⟨p77, q78, h⟩ := h
            obtain ⟨l75, u76, h⟩ := h
            refine WL_val gd0 ((o_indexAddr Try.underlying36 Try.sizeOf40 (by exact (congrArg (fun z => Value.slice z l_n61 l_c62) q78)) rfl l75 u76) _) rfl ?_
            refine WL_val gd0 ((o_fieldAddr0 Try.underlying40 rfl Try.sizeOf3 rfl rfl rfl) _) rfl ?_
            obtain ⟨id79, hc80, h⟩ := h
            refine WL_val gd0 (o_load Try.isAgg3 rfl hc80) rfl ?_
            refine WL_val gd0 ((o_assign (v := .int .i64 id79) rfl) _) rfl ?_
            refine WL_nil ?_
            refine nrm ?_
            refine WC_seq ?_
            refine WC_seq ?_
            refine WC_draws [] (.look 0 (.look 1 (.look 2 (.look 3 (.look 4 (.look 5 (.look 6 (.look 7 (.look 8 (.look 9 (.look 10 (.look 11 (.look 12 (.look 13 (.look 14 (.look 15 (.look 16 (.look 17 (.look 18 (.look 19 (.look 20 (.look 21 (.look 22 (.look 23 (.look 24 (.look 25 (.look 26 (.look 27 (.look 28 (.look 29 (.look 30 (.look 31 (.look 32 (.look 33 .nil)))))))))))))))))))))))))))))))))) Try.mixed (by kernel_rfl) ?_
            refine WQ_val rfl gd0 (o_move (v := .int .i64 id79) rfl) rfl ?_
            refine WQ_val rfl gd0 (o_lss rfl rfl) rfl ?_
            refine WQ_val rfl gd0 (o_move (v := .bool (decide (id79 < 0))) rfl) rfl ?_
            refine bsplit (decide (id79 < 0)) (fun hb81 => ?_) (fun hb81 => ?_)
            · rw [if_pos (of_decide_eq_true hb81)] at h
              refine WQ_skip rfl (gdN (b := (decide (id79 < 0))) 73 rfl rfl hb81) rfl ?_
              refine WQ_skip rfl (gdN (b := (decide (id79 < 0))) 73 rfl rfl hb81) rfl ?_
              refine WQ_val rfl gd0 (o_pickT (v := .bool true) rfl hb81 rfl) rfl ?_
              refine WQ_val rfl gd0 (o_move (v := .bool true) rfl) rfl ?_
              refine WQ_skip rfl (gdN (b := true) 77 rfl rfl rfl) rfl ?_
              refine WQ_skip rfl (gdN (b := true) 77 rfl rfl rfl) rfl ?_
              refine WQ_skip rfl (gdN (b := true) 77 rfl rfl rfl) rfl ?_
              refine WQ_skip rfl (gdU 80 rfl rfl) rfl ?_
              refine WQ_skip rfl (gdU 80 rfl rfl) rfl ?_
              refine WQ_skip rfl (gdU 80 rfl rfl) rfl ?_
              refine WQ_skip rfl (gdU 80 rfl rfl) rfl ?_
              refine WQ_skip rfl (gdU 80 rfl rfl) rfl ?_
              refine WQ_skip rfl (gdU 80 rfl rfl) rfl ?_
              refine WQ_skip rfl (gdU 80 rfl rfl) rfl ?_
              refine WQ_skip rfl (gdU 80 rfl rfl) rfl ?_
              refine WQ_skip rfl (gdN (b := true) 77 rfl rfl rfl) rfl ?_
              refine WQ_val rfl gd0 (o_pickT (v := .bool true) rfl rfl rfl) rfl ?_
              refine WQ_val rfl gd0 (o_move (v := .bool true) rfl) rfl ?_
              refine WQ_skip rfl (gdN (b := true) 91 rfl rfl rfl) rfl ?_
              refine WQ_skip rfl (gdN (b := true) 91 rfl rfl rfl) rfl ?_
              refine WQ_skip rfl (gdN (b := true) 91 rfl rfl rfl) rfl ?_
              refine WQ_skip rfl (gdN (b := true) 91 rfl rfl rfl) rfl ?_
              refine WQ_skip rfl (gdN (b := true) 91 rfl rfl rfl) rfl ?_
              refine WQ_skip rfl (gdN (b := true) 91 rfl rfl rfl) rfl ?_
              refine WQ_skip rfl (gdN (b := true) 91 rfl rfl rfl) rfl ?_
              refine WQ_skip rfl (gdN (b := true) 91 rfl rfl rfl) rfl ?_
              refine WQ_skip rfl (gdN (b := true) 91 rfl rfl rfl) rfl ?_
              refine WQ_skip rfl (gdN (b := true) 91 rfl rfl rfl) rfl ?_
              refine WQ_skip rfl (gdN (b := true) 91 rfl rfl rfl) rfl ?_
              refine WQ_skip rfl (gdN (b := true) 91 rfl rfl rfl) rfl ?_
              refine WQ_val rfl gd0 (o_pickT (v := .bool true) rfl rfl rfl) rfl ?_
              refine WQ_nil ?_
              refine nrm ?_
              refine WC_cond (t := true) rfl (fun _ => ?_) (fun hx => by rw [(rfl : true = true)] at hx; cases hx)
              refine WC_seq ?_
              refine WC_region ?_
              refine WL_val gd0 ((o_assign (v := .bool false) rfl) _) rfl ?_
              refine WL_nil ?_
              refine nrm ?_
              refine WC_ret ?_
              refine rtT ?_
              refine rtB ?_
              refine rtT ?_
              refine rtT ?_
              refine rtB ?_
              refine rtB ?_
              refine rtT ?_
              refine rtT ?_
              refine rtB ?_
              refine rtT ?_
              refine rtE ?_
              exact gv1 rfl rfl h
            · rw [if_neg (of_decide_eq_false hb81)] at h
              refine WQ_val rfl (gdY (b := (decide (id79 < 0))) 73 rfl rfl hb81) (o_move (v := .int .i64 id79) rfl) rfl ?_
              refine WQ_val rfl (gdY (b := (decide (id79 < 0))) 73 rfl rfl hb81) (o_gtr rfl rfl) rfl ?_
              refine WQ_val rfl gd0 (o_pickF (v := .bool (decide (2 < id79))) rfl hb81 rfl) rfl ?_
              refine WQ_val rfl gd0 (o_move (v := .bool (decide (2 < id79))) rfl) rfl ?_
              refine bsplit (decide (2 < id79)) (fun hb82 => ?_) (fun hb82 => ?_)
              · rw [if_pos (of_decide_eq_true hb82)] at h
                refine WQ_skip rfl (gdN (b := (decide (2 < id79))) 77 rfl rfl hb82) rfl ?_
                refine WQ_skip rfl (gdN (b := (decide (2 < id79))) 77 rfl rfl hb82) rfl ?_
                refine WQ_skip rfl (gdN (b := (decide (2 < id79))) 77 rfl rfl hb82) rfl ?_
                refine WQ_skip rfl (gdU 80 rfl rfl) rfl ?_
                refine WQ_skip rfl (gdU 80 rfl rfl) rfl ?_
                refine WQ_skip rfl (gdU 80 rfl rfl) rfl ?_
                refine WQ_skip rfl (gdU 80 rfl rfl) rfl ?_
                refine WQ_skip rfl (gdU 80 rfl rfl) rfl ?_
                refine WQ_skip rfl (gdU 80 rfl rfl) rfl ?_
                refine WQ_skip rfl (gdU 80 rfl rfl) rfl ?_
                refine WQ_skip rfl (gdU 80 rfl rfl) rfl ?_
                refine WQ_skip rfl (gdN (b := (decide (2 < id79))) 77 rfl rfl hb82) rfl ?_
                refine WQ_val rfl gd0 (o_pickT (v := .bool true) rfl hb82 rfl) rfl ?_
                refine WQ_val rfl gd0 (o_move (v := .bool true) rfl) rfl ?_
                refine WQ_skip rfl (gdN (b := true) 91 rfl rfl rfl) rfl ?_
                refine WQ_skip rfl (gdN (b := true) 91 rfl rfl rfl) rfl ?_
                refine WQ_skip rfl (gdN (b := true) 91 rfl rfl rfl) rfl ?_
                refine WQ_skip rfl (gdN (b := true) 91 rfl rfl rfl) rfl ?_
                refine WQ_skip rfl (gdN (b := true) 91 rfl rfl rfl) rfl ?_
                refine WQ_skip rfl (gdN (b := true) 91 rfl rfl rfl) rfl ?_
                refine WQ_skip rfl (gdN (b := true) 91 rfl rfl rfl) rfl ?_
                refine WQ_skip rfl (gdN (b := true) 91 rfl rfl rfl) rfl ?_
                refine WQ_skip rfl (gdN (b := true) 91 rfl rfl rfl) rfl ?_
                refine WQ_skip rfl (gdN (b := true) 91 rfl rfl rfl) rfl ?_
                refine WQ_skip rfl (gdN (b := true) 91 rfl rfl rfl) rfl ?_
                refine WQ_skip rfl (gdN (b := true) 91 rfl rfl rfl) rfl ?_
                refine WQ_val rfl gd0 (o_pickT (v := .bool true) rfl rfl rfl) rfl ?_
                refine WQ_nil ?_
                refine nrm ?_
                refine WC_cond (t := true) rfl (fun _ => ?_) (fun hx => by rw [(rfl : true = true)] at hx; cases hx)
                refine WC_seq ?_
                refine WC_region ?_
                refine WL_val gd0 ((o_assign (v := .bool false) rfl) _) rfl ?_
                refine WL_nil ?_
                refine nrm ?_
                refine WC_ret ?_
                refine rtT ?_
                refine rtB ?_
                refine rtT ?_
                refine rtT ?_
                refine rtB ?_
                refine rtB ?_
                refine rtT ?_
                refine rtT ?_
                refine rtB ?_
                refine rtT ?_
                refine rtE ?_
                exact gv1 rfl rfl h
              · rw [if_neg (of_decide_eq_false hb82)] at h
                refine WQ_val rfl (gdY (b := (decide (2 < id79))) 77 rfl rfl hb82) (o_move (v := .int .i64 k71) (by exact e11_70)) rfl ?_
                refine WQ_val rfl (gdY (b := (decide (2 < id79))) 77 rfl rfl hb82) (o_gtr rfl rfl) rfl ?_
                refine WQ_val rfl (gdY (b := (decide (2 < id79))) 77 rfl rfl hb82) (o_move (v := .bool (decide (0 < k71))) rfl) rfl ?_
                refine bsplit (decide (0 < k71)) (fun hb83 => ?_) (fun hb83 => ?_)
                · rw [if_pos (of_decide_eq_true hb83)] at h
                  refine WQ_val rfl (gdY (b := (decide (0 < k71))) 80 rfl rfl hb83) (o_move (v := .slice l_a60 l_n61 l_c62) (by exact e10_69)) rfl ?_
                  refine WQ_val rfl (gdY (b := (decide (0 < k71))) 80 rfl rfl hb83) (o_move (v := .int .i64 k71) (by exact e11_70)) rfl ?_
                  refine WQ_val rfl (gdY (b := (decide (0 < k71))) 80 rfl rfl hb83) (o_sub rfl rfl) rfl ?_
                  obtain ⟨l84, u85, h⟩ := h
                  refine WQ_val rfl (gdY (b := (decide (0 < k71))) 80 rfl rfl hb83) (o_indexAddr Try.underlying36 Try.sizeOf40 (by exact (congrArg (fun z => Value.slice z l_n61 l_c62) q78)) rfl l84 u85) rfl ?_
                  refine WQ_val rfl (gdY (b := (decide (0 < k71))) 80 rfl rfl hb83) (o_fieldAddr0 Try.underlying40 rfl Try.sizeOf3 rfl rfl rfl) rfl ?_
                  obtain ⟨x86, hc87, h⟩ := h
                  refine WQ_look (fun w => w.cell? (p77.add (((IntKind.i64.wrap (k71 - 1)).toNat) * 3)) = some (.int .i64 x86)) rfl (gdY (b := (decide (0 < k71))) 80 rfl rfl hb83) (fun w hc => (o_load Try.isAgg3 rfl hc)) hc87 rfl ?_
                  refine WQ_val rfl (gdY (b := (decide (0 < k71))) 80 rfl rfl hb83) (o_move (v := .int .i64 id79) rfl) rfl ?_
                  refine WQ_val rfl (gdY (b := (decide (0 < k71))) 80 rfl rfl hb83) (o_geq rfl rfl) rfl ?_
                  refine WQ_val rfl (gdY (b := (decide (2 < id79))) 77 rfl rfl hb82) (o_pickT (v := .bool (decide (id79 ≤ x86))) rfl hb83 rfl) rfl ?_
                  refine WQ_val rfl gd0 (o_pickF (v := .bool (decide (id79 ≤ x86))) rfl hb82 rfl) rfl ?_
                  refine WQ_val rfl gd0 (o_move (v := .bool (decide (id79 ≤ x86))) rfl) rfl ?_
                  refine bsplit (decide (id79 ≤ x86)) (fun hb88 => ?_) (fun hb88 => ?_)
                  · rw [if_pos (of_decide_eq_true hb88)] at h
                    refine WQ_skip rfl (gdN (b := (decide (id79 ≤ x86))) 91 rfl rfl hb88) rfl ?_
                    refine WQ_skip rfl (gdN (b := (decide (id79 ≤ x86))) 91 rfl rfl hb88) rfl ?_
                    refine WQ_skip rfl (gdN (b := (decide (id79 ≤ x86))) 91 rfl rfl hb88) rfl ?_
                    refine WQ_skip rfl (gdN (b := (decide (id79 ≤ x86))) 91 rfl rfl hb88) rfl ?_
                    refine WQ_skip rfl (gdN (b := (decide (id79 ≤ x86))) 91 rfl rfl hb88) rfl ?_
                    refine WQ_skip rfl (gdN (b := (decide (id79 ≤ x86))) 91 rfl rfl hb88) rfl ?_
                    refine WQ_skip rfl (gdN (b := (decide (id79 ≤ x86))) 91 rfl rfl hb88) rfl ?_
                    refine WQ_skip rfl (gdN (b := (decide (id79 ≤ x86))) 91 rfl rfl hb88) rfl ?_
                    refine WQ_skip rfl (gdN (b := (decide (id79 ≤ x86))) 91 rfl rfl hb88) rfl ?_
                    refine WQ_skip rfl (gdN (b := (decide (id79 ≤ x86))) 91 rfl rfl hb88) rfl ?_
                    refine WQ_skip rfl (gdN (b := (decide (id79 ≤ x86))) 91 rfl rfl hb88) rfl ?_
                    refine WQ_skip rfl (gdN (b := (decide (id79 ≤ x86))) 91 rfl rfl hb88) rfl ?_
                    refine WQ_val rfl gd0 (o_pickT (v := .bool true) rfl hb88 rfl) rfl ?_
                    refine WQ_nil ?_
                    refine nrm ?_
                    refine WC_cond (t := true) rfl (fun _ => ?_) (fun hx => by rw [(rfl : true = true)] at hx; cases hx)
                    refine WC_seq ?_
                    refine WC_region ?_
                    refine WL_val gd0 ((o_assign (v := .bool false) rfl) _) rfl ?_
                    refine WL_nil ?_
                    refine nrm ?_
                    refine WC_ret ?_
                    refine rtT ?_
                    refine rtB ?_
                    refine rtT ?_
                    refine rtT ?_
                    refine rtB ?_
                    refine rtB ?_
                    refine rtT ?_
                    refine rtT ?_
                    refine rtB ?_
                    refine rtT ?_
                    refine rtE ?_
                    exact gv1 rfl rfl h
                  · rw [if_neg (of_decide_eq_false hb88)] at h
                    refine WQ_val rfl (gdY (b := (decide (id79 ≤ x86))) 91 rfl rfl hb88) (o_move (v := .int .i64 (IntKind.i64.wrap (now47 + (IntKind.i64.wrap x57)))) (by exact e8_67)) rfl ?_
                    refine WQ_val rfl (gdY (b := (decide (id79 ≤ x86))) 91 rfl rfl hb88) (o_move (v := .slice (some p40) 3 3) (by exact e7_66)) rfl ?_
                    refine WQ_val rfl (gdY (b := (decide (id79 ≤ x86))) 91 rfl rfl hb88) (o_move (v := .int .i64 id79) rfl) rfl ?_
                    obtain ⟨l89, u90, h⟩ := h
                    refine WQ_val rfl (gdY (b := (decide (id79 ≤ x86))) 91 rfl rfl hb88) (o_indexAddr1 Try.underlying26 Try.sizeOf3 rfl rfl l89 u90) rfl ?_
                    obtain ⟨x91, hc92, h⟩ := h
                    refine WQ_look (fun w => w.cell? (p40.add id79.toNat) = some (.int .i64 x91)) rfl (gdY (b := (decide (id79 ≤ x86))) 91 rfl rfl hb88) (fun w hc => (o_load Try.isAgg3 rfl hc)) hc92 rfl ?_
                    refine WQ_val rfl (gdY (b := (decide (id79 ≤ x86))) 91 rfl rfl hb88) (o_sub rfl rfl) rfl ?_
                    refine WQ_val rfl (gdY (b := (decide (id79 ≤ x86))) 91 rfl rfl hb88) (o_move (v := .int .i64 id79) rfl) rfl ?_
                    obtain ⟨l93, u94, h⟩ := h
                    refine WQ_val rfl (gdY (b := (decide (id79 ≤ x86))) 91 rfl rfl hb88) (o_indexAddrArr1 Try.underlying42 Try.sizeOf5 (by exact e2_64) rfl l93 u94) rfl ?_
                    obtain ⟨x95, hc96, h⟩ := h
                    refine WQ_look (fun w => w.cell? (p8.add id79.toNat) = some (.int .u8 x95)) rfl (gdY (b := (decide (id79 ≤ x86))) 91 rfl rfl hb88) (fun w hc => (o_load Try.isAgg5 rfl hc)) hc96 rfl ?_
                    refine WQ_val rfl (gdY (b := (decide (id79 ≤ x86))) 91 rfl rfl hb88) (o_conv Try.underlying5 Try.underlying3 rfl) rfl ?_
                    refine WQ_val rfl (gdY (b := (decide (id79 ≤ x86))) 91 rfl rfl hb88) (o_add rfl rfl) rfl ?_
                    refine WQ_val rfl (gdY (b := (decide (id79 ≤ x86))) 91 rfl rfl hb88) (o_lss rfl rfl) rfl ?_
                    refine WQ_val rfl gd0 (o_pickF (v := .bool (decide ((IntKind.i64.wrap ((IntKind.i64.wrap (now47 + (IntKind.i64.wrap x57))) - x91)) < (IntKind.i64.wrap (1 + (IntKind.i64.wrap x95)))))) rfl hb88 rfl) rfl ?_
                    refine WQ_nil ?_
                    refine nrm ?_
                    refine WC_cond (t := (decide ((IntKind.i64.wrap ((IntKind.i64.wrap (now47 + (IntKind.i64.wrap x57))) - x91)) < (IntKind.i64.wrap (1 + (IntKind.i64.wrap x95)))))) rfl (fun hb97 => ?_) (fun hb97 => ?_)
                    · rw [if_pos (of_decide_eq_true hb97)] at h
                      refine WC_seq ?_
                      refine WC_region ?_
                      refine WL_val gd0 ((o_assign (v := .bool false) rfl) _) rfl ?_
                      refine WL_nil ?_
                      refine nrm ?_
                      refine WC_ret ?_
                      refine rtT ?_
                      refine rtB ?_
                      refine rtT ?_
                      refine rtT ?_
                      refine rtB ?_
                      refine rtB ?_
                      refine rtT ?_
                      refine rtT ?_
                      refine rtB ?_
                      refine rtT ?_
                      refine rtE ?_
                      exact gv1 rfl rfl h
                    · rw [if_neg (of_decide_eq_false hb97)] at h
                      refine WC_skip ?_
                      refine nrm ?_
                      refine WC_region ?_
                      refine WL_val gd0 ((o_move (v := .slice (some p40) 3 3) (by exact e7_66)) _) rfl ?_
                      refine WL_val gd0 ((o_move (v := .int .i64 id79) rfl) _) rfl ?_
                      refine WL_val gd0 ((o_move (v := .int .i64 (IntKind.i64.wrap (now47 + (IntKind.i64.wrap x57)))) (by exact e8_67)) _) rfl ?_
                      obtain ⟨l98, u99, h⟩ := h
                      refine WL_val gd0 ((o_indexAddr1 Try.underlying26 Try.sizeOf3 rfl rfl l98 u99) _) rfl ?_
                      obtain ⟨c101, h⟩ := h
                      refine WL_act gd0 (o_store (v := .int .i64 (IntKind.i64.wrap (now47 + (IntKind.i64.wrap x57)))) Try.sizeOf3 rfl rfl rfl c101) ?_
                      generalize hw100 : World.setCell w72.drew (p40.add id79.toNat) (.int .i64 (IntKind.i64.wrap (now47 + (IntKind.i64.wrap x57)))) = w100 at h ⊢
                      try dsimp only at h
                      refine WL_nil ?_
                      refine nrmB ?_
                      refine nrm ?_
                      refine WC_region ?_
                      refine WL_val gd0 ((o_move (v := .int .i64 k71) (by exact e11_70)) _) rfl ?_
                      refine WL_val gd0 ((o_add rfl rfl) _) rfl ?_
                      refine WL_val gd0 ((o_assign (v := .int .i64 (IntKind.i64.wrap (k71 + 1))) rfl) _) rfl ?_
                      refine WL_nil ?_
                      refine nrm ?_
                      obtain ⟨m73, hm73, h⟩ := h
                      exact ⟨m73, hm73, _, rfl, e1_63, e2_64, e5_65, e7_66, e8_67, e9_68, e10_69, h⟩
                · rw [if_neg (of_decide_eq_false hb83)] at h
                  refine WQ_skip rfl (gdN (b := (decide (0 < k71))) 80 rfl rfl hb83) rfl ?_
                  refine WQ_skip rfl (gdN (b := (decide (0 < k71))) 80 rfl rfl hb83) rfl ?_
                  refine WQ_skip rfl (gdN (b := (decide (0 < k71))) 80 rfl rfl hb83) rfl ?_
                  refine WQ_skip rfl (gdN (b := (decide (0 < k71))) 80 rfl rfl hb83) rfl ?_
                  refine WQ_skip rfl (gdN (b := (decide (0 < k71))) 80 rfl rfl hb83) rfl ?_
                  refine WQ_skip rfl (gdN (b := (decide (0 < k71))) 80 rfl rfl hb83) rfl ?_
                  refine WQ_skip rfl (gdN (b := (decide (0 < k71))) 80 rfl rfl hb83) rfl ?_
                  refine WQ_skip rfl (gdN (b := (decide (0 < k71))) 80 rfl rfl hb83) rfl ?_
                  refine WQ_val rfl (gdY (b := (decide (2 < id79))) 77 rfl rfl hb82) (o_pickF (v := .bool false) rfl hb83 rfl) rfl ?_
                  refine WQ_val rfl gd0 (o_pickF (v := .bool false) rfl hb82 rfl) rfl ?_
                  refine WQ_val rfl gd0 (o_move (v := .bool false) rfl) rfl ?_
                  refine WQ_val rfl (gdY (b := false) 91 rfl rfl rfl) (o_move (v := .int .i64 (IntKind.i64.wrap (now47 + (IntKind.i64.wrap x57)))) (by exact e8_67)) rfl ?_
                  refine WQ_val rfl (gdY (b := false) 91 rfl rfl rfl) (o_move (v := .slice (some p40) 3 3) (by exact e7_66)) rfl ?_
                  refine WQ_val rfl (gdY (b := false) 91 rfl rfl rfl) (o_move (v := .int .i64 id79) rfl) rfl ?_
                  obtain ⟨l102, u103, h⟩ := h
                  refine WQ_val rfl (gdY (b := false) 91 rfl rfl rfl) (o_indexAddr1 Try.underlying26 Try.sizeOf3 rfl rfl l102 u103) rfl ?_
                  obtain ⟨x104, hc105, h⟩ := h
                  refine WQ_look (fun w => w.cell? (p40.add id79.toNat) = some (.int .i64 x104)) rfl (gdY (b := false) 91 rfl rfl rfl) (fun w hc => (o_load Try.isAgg3 rfl hc)) hc105 rfl ?_
                  refine WQ_val rfl (gdY (b := false) 91 rfl rfl rfl) (o_sub rfl rfl) rfl ?_
                  refine WQ_val rfl (gdY (b := false) 91 rfl rfl rfl) (o_move (v := .int .i64 id79) rfl) rfl ?_
                  obtain ⟨l106, u107, h⟩ := h
                  refine WQ_val rfl (gdY (b := false) 91 rfl rfl rfl) (o_indexAddrArr1 Try.underlying42 Try.sizeOf5 (by exact e2_64) rfl l106 u107) rfl ?_
                  obtain ⟨x108, hc109, h⟩ := h
                  refine WQ_look (fun w => w.cell? (p8.add id79.toNat) = some (.int .u8 x108)) rfl (gdY (b := false) 91 rfl rfl rfl) (fun w hc => (o_load Try.isAgg5 rfl hc)) hc109 rfl ?_
                  refine WQ_val rfl (gdY (b := false) 91 rfl rfl rfl) (o_conv Try.underlying5 Try.underlying3 rfl) rfl ?_
                  refine WQ_val rfl (gdY (b := false) 91 rfl rfl rfl) (o_add rfl rfl) rfl ?_
                  refine WQ_val rfl (gdY (b := false) 91 rfl rfl rfl) (o_lss rfl rfl) rfl ?_
                  refine WQ_val rfl gd0 (o_pickF (v := .bool (decide ((IntKind.i64.wrap ((IntKind.i64.wrap (now47 + (IntKind.i64.wrap x57))) - x104)) < (IntKind.i64.wrap (1 + (IntKind.i64.wrap x108)))))) rfl rfl rfl) rfl ?_
                  refine WQ_nil ?_
                  refine nrm ?_
                  refine WC_cond (t := (decide ((IntKind.i64.wrap ((IntKind.i64.wrap (now47 + (IntKind.i64.wrap x57))) - x104)) < (IntKind.i64.wrap (1 + (IntKind.i64.wrap x108)))))) rfl (fun hb110 => ?_) (fun hb110 => ?_)
                  · rw [if_pos (of_decide_eq_true hb110)] at h
                    refine WC_seq ?_
                    refine WC_region ?_
                    refine WL_val gd0 ((o_assign (v := .bool false) rfl) _) rfl ?_
                    refine WL_nil ?_
                    refine nrm ?_
                    refine WC_ret ?_
                    refine rtT ?_
                    refine rtB ?_
                    refine rtT ?_
                    refine rtT ?_
                    refine rtB ?_
                    refine rtB ?_
                    refine rtT ?_
                    refine rtT ?_
                    refine rtB ?_
                    refine rtT ?_
                    refine rtE ?_
                    exact gv1 rfl rfl h
                  · rw [if_neg (of_decide_eq_false hb110)] at h
                    refine WC_skip ?_
                    refine nrm ?_
                    refine WC_region ?_
                    refine WL_val gd0 ((o_move (v := .slice (some p40) 3 3) (by exact e7_66)) _) rfl ?_
                    refine WL_val gd0 ((o_move (v := .int .i64 id79) rfl) _) rfl ?_
                    refine WL_val gd0 ((o_move (v := .int .i64 (IntKind.i64.wrap (now47 + (IntKind.i64.wrap x57)))) (by exact e8_67)) _) rfl ?_
                    obtain ⟨l111, u112, h⟩ := h
                    refine WL_val gd0 ((o_indexAddr1 Try.underlying26 Try.sizeOf3 rfl rfl l111 u112) _) rfl ?_
                    obtain ⟨c114, h⟩ := h
                    refine WL_act gd0 (o_store (v := .int .i64 (IntKind.i64.wrap (now47 + (IntKind.i64.wrap x57)))) Try.sizeOf3 rfl rfl rfl c114) ?_
                    generalize hw113 : World.setCell w72.drew (p40.add id79.toNat) (.int .i64 (IntKind.i64.wrap (now47 + (IntKind.i64.wrap x57)))) = w113 at h ⊢
                    try dsimp only at h
                    refine WL_nil ?_
                    refine nrmB ?_
                    refine nrm ?_
                    refine WC_region ?_
                    refine WL_val gd0 ((o_move (v := .int .i64 k71) (by exact e11_70)) _) rfl ?_
                    refine WL_val gd0 ((o_add rfl rfl) _) rfl ?_
                    refine WL_val gd0 ((o_assign (v := .int .i64 (IntKind.i64.wrap (k71 + 1))) rfl) _) rfl ?_
                    refine WL_nil ?_
                    refine nrm ?_
                    obtain ⟨m73, hm73, h⟩ := h
                    exact ⟨m73, hm73, _, rfl, e1_63, e2_64, e5_65, e7_66, e8_67, e9_68, e10_69, h⟩
          · rw [if_neg (of_decide_eq_false hb74)] at h
            refine WC_exit ?_
            refine exT ?_
            refine exT ?_
            refine exB ?_
            refine nrmB ?_
            refine nrm ?_
            refine WC_region ?_
            refine WL_val gd0 ((o_move (v := .int .i64 i49) (by exact e9_68)) _) rfl ?_
            refine WL_val gd0 ((o_add rfl rfl) _) rfl ?_
            refine WL_val gd0 ((o_assign (v := .int .i64 (IntKind.i64.wrap (i49 + 1))) rfl) _) rfl ?_
            refine WL_nil ?_
            refine nrm ?_
            obtain ⟨m51, hm51, h⟩ := h
            exact ⟨m51, hm51, _, _, e8_67, rfl, e1_63, e2_64, e5_65, e7_66, h⟩
        · rw [if_neg (of_decide_eq_false hb52)] at h
          refine WC_exit ?_
          refine exT ?_
          refine exT ?_
          refine exB ?_
          refine nrm ?_
          refine WC_seq ?_
          refine WC_region ?_
          refine WL_call gd0 (o_call Try.call12 argNil _) rfl (h.mono ?_)
          rintro _ w115 ⟨t116, rfl, h⟩
          refine WL_val gd0 ((o_assign (v := .bool t116) rfl) _) rfl ?_
          refine WL_nil ?_
          refine nrm ?_
          refine WC_ret ?_
          refine rtE ?_
          exact gv1 rfl rfl h

def F6_b3 (l_n2 : Nat) (l_a1 : Option Addr) (s47 : Option Addr) (p57 : Addr) (c85 : Option Addr) (p94 : Addr) (i105 : Int) (w106 : World) (k : Value → World → Prop) (nx106 : Int → World → Prop) : Prop :=
  if i105 < (l_n2 : Int) then
  if (Int.tmod i105 2) = 0 then
    ∃ (p112 : Addr), l_a1 = some p112 ∧ (0 : Int) ≤ i105 ∧ i105 < (l_n2 : Int) ∧ ∃ (x114 x115 x116 x117 : Int) (x118 : Bool) (x_a119 : Option Addr) (x_n120 x_c121 : Nat), Cells w106 (p112.add (i105.toNat * 6)) 0 [.int .u8 x114, .int .i64 x115, .int .i64 x116, .int .i64 x117, .bool x118, .slice x_a119 x_n120 x_c121] ∧ Does Try.prog 17 #[.pointer s47, .pointer (some p57), .agg #[.int .u8 x114, .int .i64 x115, .int .i64 x116, .int .i64 x117, .bool x118, .slice x_a119 x_n120 x_c121], .pointer none] w106 (fun v w123 => ∃ (x124 : Bool), v = .bool x124 ∧ if (!x124) = true then
      k (.bool false) w123
    else
      if (Int.tmod i105 2) = 1 then
        (0 : Int) ≤ i105 ∧ i105 < (l_n2 : Int) ∧ ∃ (x129 x130 x131 x132 : Int) (x133 : Bool) (x_a134 : Option Addr) (x_n135 x_c136 : Nat), Cells w123 (p112.add (i105.toNat * 6)) 0 [.int .u8 x129, .int .i64 x130, .int .i64 x131, .int .i64 x132, .bool x133, .slice x_a134 x_n135 x_c136] ∧ Does Try.prog 17 #[.pointer c85, .pointer (some p94), .agg #[.int .u8 x129, .int .i64 x130, .int .i64 x131, .int .i64 x132, .bool x133, .slice x_a134 x_n135 x_c136], .pointer none] w123 (fun v w138 => ∃ (x139 : Bool), v = .bool x139 ∧ if (!x139) = true then
          k (.bool false) w138
        else
          nx106 (IntKind.i64.wrap (i105 + 1)) w138)
      else
        nx106 (IntKind.i64.wrap (i105 + 1)) w123)
  else
    if (Int.tmod i105 2) = 1 then
      ∃ (p144 : Addr), l_a1 = some p144 ∧ (0 : Int) ≤ i105 ∧ i105 < (l_n2 : Int) ∧ ∃ (x146 x147 x148 x149 : Int) (x150 : Bool) (x_a151 : Option Addr) (x_n152 x_c153 : Nat), Cells w106 (p144.add (i105.toNat * 6)) 0 [.int .u8 x146, .int .i64 x147, .int .i64 x148, .int .i64 x149, .bool x150, .slice x_a151 x_n152 x_c153] ∧ Does Try.prog 17 #[.pointer c85, .pointer (some p94), .agg #[.int .u8 x146, .int .i64 x147, .int .i64 x148, .int .i64 x149, .bool x150, .slice x_a151 x_n152 x_c153], .pointer none] w106 (fun v w155 => ∃ (x156 : Bool), v = .bool x156 ∧ if (!x156) = true then
        k (.bool false) w155
      else
        nx106 (IntKind.i64.wrap (i105 + 1)) w155)
    else
      nx106 (IntKind.i64.wrap (i105 + 1)) w106
else
  ∃ (x_a158 : Option Addr) (x_n159 x_c160 : Nat), w106.drew.cell? p57 = some (.slice x_a158 x_n159 x_c160) ∧ Does Try.prog 11 #[.pointer s47] w106.drew (fun v w162 => ∃ (x_a163 : Option Addr) (x_n164 x_c165 : Nat), v = .slice x_a163 x_n164 x_c165 ∧ w162.cell? p57 = some (.slice x_a158 x_n159 x_c160) ∧ Does Try.prog 18 #[.slice x_a163 x_n164 x_c165, .slice x_a158 x_n159 x_c160] w162 (fun v w167 => ∃ (x168 : Bool), v = .bool x168 ∧ if x168 = true then
    ∃ (x_a170 : Option Addr) (x_n171 x_c172 : Nat), w167.cell? p94 = some (.slice x_a170 x_n171 x_c172) ∧ Does Try.prog 11 #[.pointer c85] w167 (fun v w174 => ∃ (x_a175 : Option Addr) (x_n176 x_c177 : Nat), v = .slice x_a175 x_n176 x_c177 ∧ w174.cell? p94 = some (.slice x_a170 x_n171 x_c172) ∧ Does Try.prog 18 #[.slice x_a175 x_n176 x_c177, .slice x_a170 x_n171 x_c172] w174 (fun v w179 => ∃ (x180 : Bool), v = .bool x180 ∧ if x180 = true then
      Does Try.prog 12 #[] w179 (fun v w182 => ∃ (x183 : Bool), v = .bool x183 ∧ k (.bool x183) w182)
    else
      k (.bool false) w179))
  else
    k (.bool false) w167))
def F6_b2 (l_n2 : Nat) (l_a1 : Option Addr) (s47 : Option Addr) (p57 : Addr) (i64 : Int) (w65 : World) (k : Value → World → Prop) (nx65 : Int → World → Prop) : Prop :=
  if i64 < (IntKind.i64.wrap (Int.tdiv (l_n2 : Int) 2)) then
  ∃ (p70 : Addr), l_a1 = some p70 ∧ (0 : Int) ≤ i64 ∧ i64 < (l_n2 : Int) ∧ ∃ (x72 x73 x74 x75 : Int) (x76 : Bool) (x_a77 : Option Addr) (x_n78 x_c79 : Nat), Cells w65 (p70.add (i64.toNat * 6)) 0 [.int .u8 x72, .int .i64 x73, .int .i64 x74, .int .i64 x75, .bool x76, .slice x_a77 x_n78 x_c79] ∧ Does Try.prog 17 #[.pointer s47, .pointer (some p57), .agg #[.int .u8 x72, .int .i64 x73, .int .i64 x74, .int .i64 x75, .bool x76, .slice x_a77 x_n78 x_c79], .pointer none] w65 (fun v w81 => ∃ (x82 : Bool), v = .bool x82 ∧ if (!x82) = true then
    k (.bool false) w81
  else
    nx65 (IntKind.i64.wrap (i64 + 1)) w81)
else
  Does Try.prog 15 #[.pointer s47] w65 (fun v w84 => ∃ (c85 : Option Addr), v = .pointer c85 ∧ ∃ (x_a86 : Option Addr) (x_n87 x_c88 : Nat) (x_a89 : Option Addr) (x_n90 x_c91 : Nat) (x92 : Int), Cells w84 p57 0 [.slice x_a86 x_n87 x_c88, .slice x_a89 x_n90 x_c91, .int .i64 x92] ∧ New w84 50 [.slice none 0 0, .slice none 0 0, .int .i64 0] (fun p94 w95 => PutAll w95 p94 [.slice x_a86 x_n87 x_c88, .slice x_a89 x_n90 x_c91, .int .i64 x92] (fun w96 => if (c85).isNone = true then
    k (.bool false) w96
  else
    LoopP (fun (s : Int) w' nx' => F6_b3 l_n2 l_a1 s47 p57 c85 p94 s w' k (fun x0 w => nx' x0 w)) (IntKind.i64.wrap (Int.tdiv (l_n2 : Int) 2)) w96)))
def F6_j1 (s47 : Option Addr) (l_n2 : Nat) (l_a1 : Option Addr) (t51 : Bool) (w52 : World) (k : Value → World → Prop) : Prop :=
  if t51 = true then
  if (!(s47).isNone) = true then
    Does Try.prog 12 #[] w52 (fun v w55 => ∃ (x56 : Bool), v = .bool x56 ∧ k (.bool x56) w55)
  else
    k (.bool false) w52
else
  New w52 50 [.slice none 0 0, .slice none 0 0, .int .i64 0] (fun p57 w58 => LoopP (fun (s : Int) w' nx' => F6_b2 l_n2 l_a1 s47 p57 s w' k (fun x0 w => nx' x0 w)) 0 w58)
/-- spacecraft spacecraftlaw34.HkClones -/
def F6 (l_a1 : Option Addr) (l_n2 : Nat) (l_c3 : Nat) (w4 : World) (k : Value → World → Prop) : Prop :=
  New w4 47 [.bool false, .int .i64 0, .slice none 0 0] (fun p5 w6 => New w6 3 [.int .i64 1] (fun p7 w8 => Does Try.prog 9 #[.pointer none, .int .i64 1, .int .i64 1, .slice (some p7) 1 1] w8 (fun v w9 => ∃ (x10 : Int), v = .int .i64 x10 ∧ if x10 ≠ 2 then
  k (.bool false) w9
else
  New w9 3 [.int .i64 1] (fun p12 w13 => Does Try.prog 9 #[.pointer (some p5), .int .i64 1, .int .i64 1, .slice (some p12) 1 1] w13 (fun v w14 => ∃ (x15 : Int), v = .int .i64 x15 ∧ if x15 ≠ 2 then
    k (.bool false) w14
  else
    Does Try.prog 10 #[.pointer none, .int .i64 1] w14 (fun v w17 => ∃ (x18 : Int), v = .int .i64 x18 ∧ if x18 ≠ 2 then
      k (.bool false) w17
    else
      Does Try.prog 13 #[.pointer (some p5), .int .i64 1, .bool true, .int .i64 1] w17 (fun v w20 => ∃ (x21 : Int), v = .int .i64 x21 ∧ if x21 ≠ 2 then
        k (.bool false) w20
      else
        Does Try.prog 14 #[.pointer none, .int .i64 1, .pointer none] w20 (fun v w23 => ∃ (x_a24 : Option Addr) (x_n25 x_c26 : Nat), v = .slice x_a24 x_n25 x_c26 ∧ Does Try.prog 14 #[.pointer (some p5), .int .i64 1, .pointer none] w23 (fun v w27 => ∃ (x_a28 : Option Addr) (x_n29 x_c30 : Nat), v = .slice x_a28 x_n29 x_c30 ∧ Does Try.prog 11 #[.pointer none] w27 (fun v w31 => ∃ (x_a32 : Option Addr) (x_n33 x_c34 : Nat), v = .slice x_a32 x_n33 x_c34 ∧ Does Try.prog 11 #[.pointer (some p5)] w31 (fun v w35 => ∃ (x_a36 : Option Addr) (x_n37 x_c38 : Nat), v = .slice x_a36 x_n37 x_c38 ∧ if (IntKind.i64.wrap ((IntKind.i64.wrap ((IntKind.i64.wrap ((x_n25 : Int) + (x_n29 : Int))) + (x_n33 : Int))) + (x_n37 : Int))) ≠ 0 then
          k (.bool false) w35
        else
          Does Try.prog 15 #[.pointer none] w35 (fun v w40 => ∃ (x41 : Option Addr), v = .pointer x41 ∧ if (!(x41).isNone) = true then
            k (.bool false) w40
          else
            Does Try.prog 15 #[.pointer (some p5)] w40 (fun v w43 => ∃ (x44 : Option Addr), v = .pointer x44 ∧ if (!(x44).isNone) = true then
              k (.bool false) w43
            else
              Does Try.prog 8 #[] w43 (fun v w46 => ∃ (s47 : Option Addr), v = .pointer s47 ∧ Does Try.prog 16 #[.slice l_a1 l_n2 l_c3] w46 (fun v w184 => ∃ (x185 : Bool), v = .bool x185 ∧ if (!x185) = true then
                F6_j1 s47 l_n2 l_a1 true w184 k
              else
                F6_j1 s47 l_n2 l_a1 ((s47).isNone) w184 k)))))))))))))))
set_option maxRecDepth 100000 in
set_option maxHeartbeats 2000000 in
theorem w6 (l_a1 : Option Addr) (l_n2 : Nat) (l_c3 : Nat) (w4 : World) (k : Value → World → Prop) (h : F6 l_a1 l_n2 l_c3 w4 k) : Does Try.prog 6 #[.slice l_a1 l_n2 l_c3] w4 k := by
  refine enter 136 Try.func6 rfl rfl rfl ?_
  intro ρ hρ
  have e0 := hρ 0 _ rfl
  unfold F6 at h
  refine WC_seq ?_
  refine WC_region ?_
  refine WL_val gd0 ((o_assign (v := .bool false) rfl) _) rfl ?_
  refine WL_nil ?_
  refine nrm ?_
  refine WC_seq ?_
  refine WC_region ?_
  refine WL_val gd0 ((o_assign (v := .pointer none) rfl) _) rfl ?_
  refine WL_nil ?_
  refine nrm ?_
  refine WC_seq ?_
  refine WC_region ?_
  have h := New.out h
  refine WL_val gd0 (o_alloc (z := .agg #[.bool false, .int .i64 0, .slice none 0 0]) (cs := [.bool false, .int .i64 0, .slice none 0 0]) Try.zeroValue47 rfl) rfl ?_
  generalize hp5 : fresh w4 = p5 at h ⊢
  generalize hw6 : push w4 47 [.bool false, .int .i64 0, .slice none 0 0] = w6 at h ⊢
  try dsimp only at h
  refine WL_nil ?_
  refine nrm ?_
  refine WC_seq ?_
  refine WC_seq ?_
  refine WC_region ?_
  refine WL_val gd0 ((o_move (v := .pointer none) rfl) _) rfl ?_
  have h := New.out h
  refine WL_val gd0 (o_buildSlice (e := 3) (ps := [(0, .int .i64 1)]) (cs := [.int .i64 1]) (partCons rfl partNil) (fun w => by kernel_rfl)) rfl ?_
  generalize hp7 : fresh w6 = p7 at h ⊢
  generalize hw8 : push w6 3 [.int .i64 1] = w8 at h ⊢
  try dsimp only at h
  refine WL_call gd0 (o_call Try.call9 (argCons rfl (argCons rfl (argCons rfl (argCons rfl argNil)))) _) rfl (h.mono ?_)
  rintro _ w9 ⟨x10, rfl, h⟩
  refine WL_val gd0 ((o_neq rfl rfl) _) rfl ?_
  refine WL_val gd0 ((o_move (v := .bool (decide (x10 ≠ 2))) rfl) _) rfl ?_
  refine bsplit (decide (x10 ≠ 2)) (fun hb11 => ?_) (fun hb11 => ?_)
  · rw [if_pos (of_decide_eq_true hb11)] at h
    refine WL_skip (gdN (b := (decide (x10 ≠ 2))) 16 rfl rfl hb11) rfl ?_
    refine WL_skip (gdN (b := (decide (x10 ≠ 2))) 16 rfl rfl hb11) rfl ?_
    refine WL_skip (gdN (b := (decide (x10 ≠ 2))) 16 rfl rfl hb11) rfl ?_
    refine WL_val gd0 ((o_pickT (v := .bool true) rfl hb11 rfl) _) rfl ?_
    refine WL_val gd0 ((o_move (v := .bool true) rfl) _) rfl ?_
    refine WL_skip (gdN (b := true) 21 rfl rfl rfl) rfl ?_
    refine WL_skip (gdN (b := true) 21 rfl rfl rfl) rfl ?_
    refine WL_skip (gdN (b := true) 21 rfl rfl rfl) rfl ?_
    refine WL_val gd0 ((o_pickT (v := .bool true) rfl rfl rfl) _) rfl ?_
    refine WL_val gd0 ((o_move (v := .bool true) rfl) _) rfl ?_
    refine WL_skip (gdN (b := true) 26 rfl rfl rfl) rfl ?_
    refine WL_skip (gdN (b := true) 26 rfl rfl rfl) rfl ?_
    refine WL_val gd0 ((o_pickT (v := .bool true) rfl rfl rfl) _) rfl ?_
    refine WL_val gd0 ((o_move (v := .bool true) rfl) _) rfl ?_
    refine WL_skip (gdN (b := true) 30 rfl rfl rfl) rfl ?_
    refine WL_skip (gdN (b := true) 30 rfl rfl rfl) rfl ?_
    refine WL_skip (gdN (b := true) 30 rfl rfl rfl) rfl ?_
    refine WL_skip (gdN (b := true) 30 rfl rfl rfl) rfl ?_
    refine WL_skip (gdN (b := true) 30 rfl rfl rfl) rfl ?_
    refine WL_skip (gdN (b := true) 30 rfl rfl rfl) rfl ?_
    refine WL_skip (gdN (b := true) 30 rfl rfl rfl) rfl ?_
    refine WL_skip (gdN (b := true) 30 rfl rfl rfl) rfl ?_
    refine WL_skip (gdN (b := true) 30 rfl rfl rfl) rfl ?_
    refine WL_skip (gdN (b := true) 30 rfl rfl rfl) rfl ?_
    refine WL_skip (gdN (b := true) 30 rfl rfl rfl) rfl ?_
    refine WL_skip (gdN (b := true) 30 rfl rfl rfl) rfl ?_
    refine WL_skip (gdN (b := true) 30 rfl rfl rfl) rfl ?_
    refine WL_skip (gdN (b := true) 30 rfl rfl rfl) rfl ?_
    refine WL_val gd0 ((o_pickT (v := .bool true) rfl rfl rfl) _) rfl ?_
    refine WL_val gd0 ((o_move (v := .bool true) rfl) _) rfl ?_
    refine WL_skip (gdN (b := true) 46 rfl rfl rfl) rfl ?_
    refine WL_skip (gdN (b := true) 46 rfl rfl rfl) rfl ?_
    refine WL_skip (gdN (b := true) 46 rfl rfl rfl) rfl ?_
    refine WL_val gd0 ((o_pickT (v := .bool true) rfl rfl rfl) _) rfl ?_
    refine WL_val gd0 ((o_move (v := .bool true) rfl) _) rfl ?_
    refine WL_skip (gdN (b := true) 51 rfl rfl rfl) rfl ?_
    refine WL_skip (gdN (b := true) 51 rfl rfl rfl) rfl ?_
    refine WL_val gd0 ((o_pickT (v := .bool true) rfl rfl rfl) _) rfl ?_
    refine WL_nil ?_
    refine nrm ?_
    refine WC_cond (t := true) rfl (fun _ => ?_) (fun hx => by rw [(rfl : true = true)] at hx; cases hx)
    refine WC_seq ?_
    refine WC_region ?_
    refine WL_val gd0 ((o_assign (v := .bool false) rfl) _) rfl ?_
    refine WL_nil ?_
    refine nrm ?_
    refine WC_ret ?_
    refine rtT ?_
    refine rtE ?_
    exact gv1 rfl rfl h
  · rw [if_neg (of_decide_eq_false hb11)] at h
    have h := New.out h
    refine WL_val (gdY (b := (decide (x10 ≠ 2))) 16 rfl rfl hb11) (o_buildSlice (e := 3) (ps := [(0, .int .i64 1)]) (cs := [.int .i64 1]) (partCons rfl partNil) (fun w => by kernel_rfl)) rfl ?_
    generalize hp12 : fresh w9 = p12 at h ⊢
    generalize hw13 : push w9 3 [.int .i64 1] = w13 at h ⊢
    try dsimp only at h
    refine WL_call (gdY (b := (decide (x10 ≠ 2))) 16 rfl rfl hb11) (o_call Try.call9 (argCons rfl (argCons rfl (argCons rfl (argCons rfl argNil)))) _) rfl (h.mono ?_)
    rintro _ w14 ⟨x15, rfl, h⟩
    refine WL_val (gdY (b := (decide (x10 ≠ 2))) 16 rfl rfl hb11) ((o_neq rfl rfl) _) rfl ?_
    refine WL_val gd0 ((o_pickF (v := .bool (decide (x15 ≠ 2))) rfl hb11 rfl) _) rfl ?_
    refine WL_val gd0 ((o_move (v := .bool (decide (x15 ≠ 2))) rfl) _) rfl ?_
    refine bsplit (decide (x15 ≠ 2)) (fun hb16 => ?_) (fun hb16 => ?_)
    · rw [if_pos (of_decide_eq_true hb16)] at h
      refine WL_skip (gdN (b := (decide (x15 ≠ 2))) 21 rfl rfl hb16) rfl ?_
      refine WL_skip (gdN (b := (decide (x15 ≠ 2))) 21 rfl rfl hb16) rfl ?_
      refine WL_skip (gdN (b := (decide (x15 ≠ 2))) 21 rfl rfl hb16) rfl ?_
      refine WL_val gd0 ((o_pickT (v := .bool true) rfl hb16 rfl) _) rfl ?_
      refine WL_val gd0 ((o_move (v := .bool true) rfl) _) rfl ?_
      refine WL_skip (gdN (b := true) 26 rfl rfl rfl) rfl ?_
      refine WL_skip (gdN (b := true) 26 rfl rfl rfl) rfl ?_
      refine WL_val gd0 ((o_pickT (v := .bool true) rfl rfl rfl) _) rfl ?_
      refine WL_val gd0 ((o_move (v := .bool true) rfl) _) rfl ?_
      refine WL_skip (gdN (b := true) 30 rfl rfl rfl) rfl ?_
      refine WL_skip (gdN (b := true) 30 rfl rfl rfl) rfl ?_
      refine WL_skip (gdN (b := true) 30 rfl rfl rfl) rfl ?_
      refine WL_skip (gdN (b := true) 30 rfl rfl rfl) rfl ?_
      refine WL_skip (gdN (b := true) 30 rfl rfl rfl) rfl ?_
      refine WL_skip (gdN (b := true) 30 rfl rfl rfl) rfl ?_
      refine WL_skip (gdN (b := true) 30 rfl rfl rfl) rfl ?_
      refine WL_skip (gdN (b := true) 30 rfl rfl rfl) rfl ?_
      refine WL_skip (gdN (b := true) 30 rfl rfl rfl) rfl ?_
      refine WL_skip (gdN (b := true) 30 rfl rfl rfl) rfl ?_
      refine WL_skip (gdN (b := true) 30 rfl rfl rfl) rfl ?_
      refine WL_skip (gdN (b := true) 30 rfl rfl rfl) rfl ?_
      refine WL_skip (gdN (b := true) 30 rfl rfl rfl) rfl ?_
      refine WL_skip (gdN (b := true) 30 rfl rfl rfl) rfl ?_
      refine WL_val gd0 ((o_pickT (v := .bool true) rfl rfl rfl) _) rfl ?_
      refine WL_val gd0 ((o_move (v := .bool true) rfl) _) rfl ?_
      refine WL_skip (gdN (b := true) 46 rfl rfl rfl) rfl ?_
      refine WL_skip (gdN (b := true) 46 rfl rfl rfl) rfl ?_
      refine WL_skip (gdN (b := true) 46 rfl rfl rfl) rfl ?_
      refine WL_val gd0 ((o_pickT (v := .bool true) rfl rfl rfl) _) rfl ?_
      refine WL_val gd0 ((o_move (v := .bool true) rfl) _) rfl ?_
      refine WL_skip (gdN (b := true) 51 rfl rfl rfl) rfl ?_
      refine WL_skip (gdN (b := true) 51 rfl rfl rfl) rfl ?_
      refine WL_val gd0 ((o_pickT (v := .bool true) rfl rfl rfl) _) rfl ?_
      refine WL_nil ?_
      refine nrm ?_
      refine WC_cond (t := true) rfl (fun _ => ?_) (fun hx => by rw [(rfl : true = true)] at hx; cases hx)
      refine WC_seq ?_
      refine WC_region ?_
      refine WL_val gd0 ((o_assign (v := .bool false) rfl) _) rfl ?_
      refine WL_nil ?_
      refine nrm ?_
      refine WC_ret ?_
      refine rtT ?_
      refine rtE ?_
      exact gv1 rfl rfl h
    · rw [if_neg (of_decide_eq_false hb16)] at h
      refine WL_val (gdY (b := (decide (x15 ≠ 2))) 21 rfl rfl hb16) ((o_move (v := .pointer none) rfl) _) rfl ?_
      refine WL_call (gdY (b := (decide (x15 ≠ 2))) 21 rfl rfl hb16) (o_call Try.call10 (argCons rfl (argCons rfl argNil)) _) rfl (h.mono ?_)
      rintro _ w17 ⟨x18, rfl, h⟩
      refine WL_val (gdY (b := (decide (x15 ≠ 2))) 21 rfl rfl hb16) ((o_neq rfl rfl) _) rfl ?_
      refine WL_val gd0 ((o_pickF (v := .bool (decide (x18 ≠ 2))) rfl hb16 rfl) _) rfl ?_
      refine WL_val gd0 ((o_move (v := .bool (decide (x18 ≠ 2))) rfl) _) rfl ?_
      refine bsplit (decide (x18 ≠ 2)) (fun hb19 => ?_) (fun hb19 => ?_)
      · rw [if_pos (of_decide_eq_true hb19)] at h
        refine WL_skip (gdN (b := (decide (x18 ≠ 2))) 26 rfl rfl hb19) rfl ?_
        refine WL_skip (gdN (b := (decide (x18 ≠ 2))) 26 rfl rfl hb19) rfl ?_
        refine WL_val gd0 ((o_pickT (v := .bool true) rfl hb19 rfl) _) rfl ?_
        refine WL_val gd0 ((o_move (v := .bool true) rfl) _) rfl ?_
        refine WL_skip (gdN (b := true) 30 rfl rfl rfl) rfl ?_
        refine WL_skip (gdN (b := true) 30 rfl rfl rfl) rfl ?_
        refine WL_skip (gdN (b := true) 30 rfl rfl rfl) rfl ?_
        refine WL_skip (gdN (b := true) 30 rfl rfl rfl) rfl ?_
        refine WL_skip (gdN (b := true) 30 rfl rfl rfl) rfl ?_
        refine WL_skip (gdN (b := true) 30 rfl rfl rfl) rfl ?_
        refine WL_skip (gdN (b := true) 30 rfl rfl rfl) rfl ?_
        refine WL_skip (gdN (b := true) 30 rfl rfl rfl) rfl ?_
        refine WL_skip (gdN (b := true) 30 rfl rfl rfl) rfl ?_
        refine WL_skip (gdN (b := true) 30 rfl rfl rfl) rfl ?_
        refine WL_skip (gdN (b := true) 30 rfl rfl rfl) rfl ?_
        refine WL_skip (gdN (b := true) 30 rfl rfl rfl) rfl ?_
        refine WL_skip (gdN (b := true) 30 rfl rfl rfl) rfl ?_
        refine WL_skip (gdN (b := true) 30 rfl rfl rfl) rfl ?_
        refine WL_val gd0 ((o_pickT (v := .bool true) rfl rfl rfl) _) rfl ?_
        refine WL_val gd0 ((o_move (v := .bool true) rfl) _) rfl ?_
        refine WL_skip (gdN (b := true) 46 rfl rfl rfl) rfl ?_
        refine WL_skip (gdN (b := true) 46 rfl rfl rfl) rfl ?_
        refine WL_skip (gdN (b := true) 46 rfl rfl rfl) rfl ?_
        refine WL_val gd0 ((o_pickT (v := .bool true) rfl rfl rfl) _) rfl ?_
        refine WL_val gd0 ((o_move (v := .bool true) rfl) _) rfl ?_
        refine WL_skip (gdN (b := true) 51 rfl rfl rfl) rfl ?_
        refine WL_skip (gdN (b := true) 51 rfl rfl rfl) rfl ?_
        refine WL_val gd0 ((o_pickT (v := .bool true) rfl rfl rfl) _) rfl ?_
        refine WL_nil ?_
        refine nrm ?_
        refine WC_cond (t := true) rfl (fun _ => ?_) (fun hx => by rw [(rfl : true = true)] at hx; cases hx)
        refine WC_seq ?_
        refine WC_region ?_
        refine WL_val gd0 ((o_assign (v := .bool false) rfl) _) rfl ?_
        refine WL_nil ?_
        refine nrm ?_
        refine WC_ret ?_
        refine rtT ?_
        refine rtE ?_
        exact gv1 rfl rfl h
      · rw [if_neg (of_decide_eq_false hb19)] at h
        refine WL_call (gdY (b := (decide (x18 ≠ 2))) 26 rfl rfl hb19) (o_call Try.call13 (argCons rfl (argCons rfl (argCons rfl (argCons rfl argNil)))) _) rfl (h.mono ?_)
        rintro _ w20 ⟨x21, rfl, h⟩
        refine WL_val (gdY (b := (decide (x18 ≠ 2))) 26 rfl rfl hb19) ((o_neq rfl rfl) _) rfl ?_
        refine WL_val gd0 ((o_pickF (v := .bool (decide (x21 ≠ 2))) rfl hb19 rfl) _) rfl ?_
        refine WL_val gd0 ((o_move (v := .bool (decide (x21 ≠ 2))) rfl) _) rfl ?_
        refine bsplit (decide (x21 ≠ 2)) (fun hb22 => ?_) (fun hb22 => ?_)
        · rw [if_pos (of_decide_eq_true hb22)] at h
          refine WL_skip (gdN (b := (decide (x21 ≠ 2))) 30 rfl rfl hb22) rfl ?_
          refine WL_skip (gdN (b := (decide (x21 ≠ 2))) 30 rfl rfl hb22) rfl ?_
          refine WL_skip (gdN (b := (decide (x21 ≠ 2))) 30 rfl rfl hb22) rfl ?_
          refine WL_skip (gdN (b := (decide (x21 ≠ 2))) 30 rfl rfl hb22) rfl ?_
          refine WL_skip (gdN (b := (decide (x21 ≠ 2))) 30 rfl rfl hb22) rfl ?_
          refine WL_skip (gdN (b := (decide (x21 ≠ 2))) 30 rfl rfl hb22) rfl ?_
          refine WL_skip (gdN (b := (decide (x21 ≠ 2))) 30 rfl rfl hb22) rfl ?_
          refine WL_skip (gdN (b := (decide (x21 ≠ 2))) 30 rfl rfl hb22) rfl ?_
          refine WL_skip (gdN (b := (decide (x21 ≠ 2))) 30 rfl rfl hb22) rfl ?_
          refine WL_skip (gdN (b := (decide (x21 ≠ 2))) 30 rfl rfl hb22) rfl ?_
          refine WL_skip (gdN (b := (decide (x21 ≠ 2))) 30 rfl rfl hb22) rfl ?_
          refine WL_skip (gdN (b := (decide (x21 ≠ 2))) 30 rfl rfl hb22) rfl ?_
          refine WL_skip (gdN (b := (decide (x21 ≠ 2))) 30 rfl rfl hb22) rfl ?_
          refine WL_skip (gdN (b := (decide (x21 ≠ 2))) 30 rfl rfl hb22) rfl ?_
          refine WL_val gd0 ((o_pickT (v := .bool true) rfl hb22 rfl) _) rfl ?_
          refine WL_val gd0 ((o_move (v := .bool true) rfl) _) rfl ?_
          refine WL_skip (gdN (b := true) 46 rfl rfl rfl) rfl ?_
          refine WL_skip (gdN (b := true) 46 rfl rfl rfl) rfl ?_
          refine WL_skip (gdN (b := true) 46 rfl rfl rfl) rfl ?_
          refine WL_val gd0 ((o_pickT (v := .bool true) rfl rfl rfl) _) rfl ?_
          refine WL_val gd0 ((o_move (v := .bool true) rfl) _) rfl ?_
          refine WL_skip (gdN (b := true) 51 rfl rfl rfl) rfl ?_
          refine WL_skip (gdN (b := true) 51 rfl rfl rfl) rfl ?_
          refine WL_val gd0 ((o_pickT (v := .bool true) rfl rfl rfl) _) rfl ?_
          refine WL_nil ?_
          refine nrm ?_
          refine WC_cond (t := true) rfl (fun _ => ?_) (fun hx => by rw [(rfl : true = true)] at hx; cases hx)
          refine WC_seq ?_
          refine WC_region ?_
          refine WL_val gd0 ((o_assign (v := .bool false) rfl) _) rfl ?_
          refine WL_nil ?_
          refine nrm ?_
          refine WC_ret ?_
          refine rtT ?_
          refine rtE ?_
          exact gv1 rfl rfl h
        · rw [if_neg (of_decide_eq_false hb22)] at h
          refine WL_val (gdY (b := (decide (x21 ≠ 2))) 30 rfl rfl hb22) ((o_move (v := .pointer none) rfl) _) rfl ?_
          refine WL_call (gdY (b := (decide (x21 ≠ 2))) 30 rfl rfl hb22) (o_call Try.call14 (argCons rfl (argCons rfl (argCons rfl argNil))) _) rfl (h.mono ?_)
          rintro _ w23 ⟨x_a24, x_n25, x_c26, rfl, h⟩
          refine WL_val (gdY (b := (decide (x21 ≠ 2))) 30 rfl rfl hb22) ((o_len Try.underlying36 rfl) _) rfl ?_
          refine WL_call (gdY (b := (decide (x21 ≠ 2))) 30 rfl rfl hb22) (o_call Try.call14 (argCons rfl (argCons rfl (argCons rfl argNil))) _) rfl (h.mono ?_)
          rintro _ w27 ⟨x_a28, x_n29, x_c30, rfl, h⟩
          refine WL_val (gdY (b := (decide (x21 ≠ 2))) 30 rfl rfl hb22) ((o_len Try.underlying36 rfl) _) rfl ?_
          refine WL_val (gdY (b := (decide (x21 ≠ 2))) 30 rfl rfl hb22) ((o_add rfl rfl) _) rfl ?_
          refine WL_val (gdY (b := (decide (x21 ≠ 2))) 30 rfl rfl hb22) ((o_move (v := .pointer none) rfl) _) rfl ?_
          refine WL_call (gdY (b := (decide (x21 ≠ 2))) 30 rfl rfl hb22) (o_call Try.call11 (argCons rfl argNil) _) rfl (h.mono ?_)
          rintro _ w31 ⟨x_a32, x_n33, x_c34, rfl, h⟩
          refine WL_val (gdY (b := (decide (x21 ≠ 2))) 30 rfl rfl hb22) ((o_len Try.underlying28 rfl) _) rfl ?_
          refine WL_val (gdY (b := (decide (x21 ≠ 2))) 30 rfl rfl hb22) ((o_add rfl rfl) _) rfl ?_
          refine WL_call (gdY (b := (decide (x21 ≠ 2))) 30 rfl rfl hb22) (o_call Try.call11 (argCons rfl argNil) _) rfl (h.mono ?_)
          rintro _ w35 ⟨x_a36, x_n37, x_c38, rfl, h⟩
          refine WL_val (gdY (b := (decide (x21 ≠ 2))) 30 rfl rfl hb22) ((o_len Try.underlying28 rfl) _) rfl ?_
          refine WL_val (gdY (b := (decide (x21 ≠ 2))) 30 rfl rfl hb22) ((o_add rfl rfl) _) rfl ?_
          refine WL_val (gdY (b := (decide (x21 ≠ 2))) 30 rfl rfl hb22) ((o_neq rfl rfl) _) rfl ?_
          refine WL_val gd0 ((o_pickF (v := .bool (decide ((IntKind.i64.wrap ((IntKind.i64.wrap ((IntKind.i64.wrap ((x_n25 : Int) + (x_n29 : Int))) + (x_n33 : Int))) + (x_n37 : Int))) ≠ 0))) rfl hb22 rfl) _) rfl ?_
          refine WL_val gd0 ((o_move (v := .bool (decide ((IntKind.i64.wrap ((IntKind.i64.wrap ((IntKind.i64.wrap ((x_n25 : Int) + (x_n29 : Int))) + (x_n33 : Int))) + (x_n37 : Int))) ≠ 0))) rfl) _) rfl ?_
          refine bsplit (decide ((IntKind.i64.wrap ((IntKind.i64.wrap ((IntKind.i64.wrap ((x_n25 : Int) + (x_n29 : Int))) + (x_n33 : Int))) + (x_n37 : Int))) ≠ 0)) (fun hb39 => ?_) (fun hb39 => ?_)
          · rw [if_pos (of_decide_eq_true hb39)] at h
            refine WL_skip (gdN (b := (decide ((IntKind.i64.wrap ((IntKind.i64.wrap ((IntKind.i64.wrap ((x_n25 : Int) + (x_n29 : Int))) + (x_n33 : Int))) + (x_n37 : Int))) ≠ 0))) 46 rfl rfl hb39) rfl ?_
            refine WL_skip (gdN (b := (decide ((IntKind.i64.wrap ((IntKind.i64.wrap ((IntKind.i64.wrap ((x_n25 : Int) + (x_n29 : Int))) + (x_n33 : Int))) + (x_n37 : Int))) ≠ 0))) 46 rfl rfl hb39) rfl ?_
            refine WL_skip (gdN (b := (decide ((IntKind.i64.wrap ((IntKind.i64.wrap ((IntKind.i64.wrap ((x_n25 : Int) + (x_n29 : Int))) + (x_n33 : Int))) + (x_n37 : Int))) ≠ 0))) 46 rfl rfl hb39) rfl ?_
            refine WL_val gd0 ((o_pickT (v := .bool true) rfl hb39 rfl) _) rfl ?_
            refine WL_val gd0 ((o_move (v := .bool true) rfl) _) rfl ?_
            refine WL_skip (gdN (b := true) 51 rfl rfl rfl) rfl ?_
            refine WL_skip (gdN (b := true) 51 rfl rfl rfl) rfl ?_
            refine WL_val gd0 ((o_pickT (v := .bool true) rfl rfl rfl) _) rfl ?_
            refine WL_nil ?_
            refine nrm ?_
            refine WC_cond (t := true) rfl (fun _ => ?_) (fun hx => by rw [(rfl : true = true)] at hx; cases hx)
            refine WC_seq ?_
            refine WC_region ?_
            refine WL_val gd0 ((o_assign (v := .bool false) rfl) _) rfl ?_
            refine WL_nil ?_
            refine nrm ?_
            refine WC_ret ?_
            refine rtT ?_
            refine rtE ?_
            exact gv1 rfl rfl h
          · rw [if_neg (of_decide_eq_false hb39)] at h
            refine WL_val (gdY (b := (decide ((IntKind.i64.wrap ((IntKind.i64.wrap ((IntKind.i64.wrap ((x_n25 : Int) + (x_n29 : Int))) + (x_n33 : Int))) + (x_n37 : Int))) ≠ 0))) 46 rfl rfl hb39) ((o_move (v := .pointer none) rfl) _) rfl ?_
            refine WL_call (gdY (b := (decide ((IntKind.i64.wrap ((IntKind.i64.wrap ((IntKind.i64.wrap ((x_n25 : Int) + (x_n29 : Int))) + (x_n33 : Int))) + (x_n37 : Int))) ≠ 0))) 46 rfl rfl hb39) (o_call Try.call15 (argCons rfl argNil) _) rfl (h.mono ?_)
            rintro _ w40 ⟨x41, rfl, h⟩
            refine WL_val (gdY (b := (decide ((IntKind.i64.wrap ((IntKind.i64.wrap ((IntKind.i64.wrap ((x_n25 : Int) + (x_n29 : Int))) + (x_n33 : Int))) + (x_n37 : Int))) ≠ 0))) 46 rfl rfl hb39) ((o_neqPtrNil Try.underlying22 rfl rfl) _) rfl ?_
            refine WL_val gd0 ((o_pickF (v := .bool (!(x41).isNone)) rfl hb39 rfl) _) rfl ?_
            refine WL_val gd0 ((o_move (v := .bool (!(x41).isNone)) rfl) _) rfl ?_
            refine bsplit (!(x41).isNone) (fun hb42 => ?_) (fun hb42 => ?_)
            · rw [if_pos hb42] at h
              refine WL_skip (gdN (b := (!(x41).isNone)) 51 rfl rfl hb42) rfl ?_
              refine WL_skip (gdN (b := (!(x41).isNone)) 51 rfl rfl hb42) rfl ?_
              refine WL_val gd0 ((o_pickT (v := .bool true) rfl hb42 rfl) _) rfl ?_
              refine WL_nil ?_
              refine nrm ?_
              refine WC_cond (t := true) rfl (fun _ => ?_) (fun hx => by rw [(rfl : true = true)] at hx; cases hx)
              refine WC_seq ?_
              refine WC_region ?_
              refine WL_val gd0 ((o_assign (v := .bool false) rfl) _) rfl ?_
              refine WL_nil ?_
              refine nrm ?_
              refine WC_ret ?_
              refine rtT ?_
              refine rtE ?_
              exact gv1 rfl rfl h
            · rw [if_neg (neT hb42)] at h
              refine WL_call (gdY (b := (!(x41).isNone)) 51 rfl rfl hb42) (o_call Try.call15 (argCons rfl argNil) _) rfl (h.mono ?_)
              rintro _ w43 ⟨x44, rfl, h⟩
              refine WL_val (gdY (b := (!(x41).isNone)) 51 rfl rfl hb42) ((o_neqPtrNil Try.underlying22 rfl rfl) _) rfl ?_
              refine WL_val gd0 ((o_pickF (v := .bool (!(x44).isNone)) rfl hb42 rfl) _) rfl ?_
              refine WL_nil ?_
              refine nrm ?_
              refine WC_cond (t := (!(x44).isNone)) rfl (fun hb45 => ?_) (fun hb45 => ?_)
              · rw [if_pos hb45] at h
                refine WC_seq ?_
                refine WC_region ?_
                refine WL_val gd0 ((o_assign (v := .bool false) rfl) _) rfl ?_
                refine WL_nil ?_
                refine nrm ?_
                refine WC_ret ?_
                refine rtT ?_
                refine rtE ?_
                exact gv1 rfl rfl h
              · rw [if_neg (neT hb45)] at h
                refine WC_skip ?_
                refine nrm ?_
                refine WC_seq ?_
                refine WC_region ?_
                refine WL_call gd0 (o_call Try.call8 argNil _) rfl (h.mono ?_)
                rintro _ w46 ⟨s47, rfl, h⟩
                refine WL_val gd0 ((o_assign (v := .pointer s47) rfl) _) rfl ?_
                refine WL_nil ?_
                refine nrm ?_
                refine WC_seq ?_
                refine WC_cut (fun ρ w' => ∃ (t51 : Bool), ρ 62 = .bool t51 ∧ ρ 0 = .slice l_a1 l_n2 l_c3 ∧ ρ 5 = .pointer s47 ∧ F6_j1 s47 l_n2 l_a1 t51 w' k) ?_ ?_
                · refine WC_region ?_
                  refine WL_val gd0 ((o_move (v := .slice l_a1 l_n2 l_c3) (by exact e0)) _) rfl ?_
                  refine WL_call gd0 (o_call Try.call16 (argCons rfl argNil) _) rfl (h.mono ?_)
                  rintro _ w184 ⟨x185, rfl, h⟩
                  refine WL_val gd0 ((o_not rfl) _) rfl ?_
                  refine WL_val gd0 ((o_move (v := .bool (!x185)) rfl) _) rfl ?_
                  refine bsplit (!x185) (fun hb186 => ?_) (fun hb186 => ?_)
                  · rw [if_pos hb186] at h
                    refine WL_skip (gdN (b := (!x185)) 59 rfl rfl hb186) rfl ?_
                    refine WL_skip (gdN (b := (!x185)) 59 rfl rfl hb186) rfl ?_
                    refine WL_val gd0 ((o_pickT (v := .bool true) rfl hb186 rfl) _) rfl ?_
                    refine WL_nil ?_
                    refine nrm ?_
                    exact ⟨_, rfl, e0, rfl, h⟩
                  · rw [if_neg (neT hb186)] at h
                    refine WL_val (gdY (b := (!x185)) 59 rfl rfl hb186) ((o_move (v := .pointer s47) rfl) _) rfl ?_
                    refine WL_val (gdY (b := (!x185)) 59 rfl rfl hb186) ((o_eqlPtrNil Try.underlying22 rfl rfl) _) rfl ?_
                    refine WL_val gd0 ((o_pickF (v := .bool ((s47).isNone)) rfl hb186 rfl) _) rfl ?_
                    refine WL_nil ?_
                    refine nrm ?_
                    exact ⟨_, rfl, e0, rfl, h⟩
                · rintro ρ w52 ⟨t51, e62_50, e0_48, e5_49, h⟩
                  unfold F6_j1 at h
                  refine WC_cond (t := t51) (by exact e62_50) (fun hb53 => ?_) (fun hb53 => ?_)
                  · rw [if_pos hb53] at h
                    refine WC_seq ?_
                    refine WC_region ?_
                    refine WL_val gd0 ((o_move (v := .pointer s47) (by exact e5_49)) _) rfl ?_
                    refine WL_val gd0 ((o_neqPtrNil Try.underlying22 rfl rfl) _) rfl ?_
                    refine WL_val gd0 ((o_move (v := .bool (!(s47).isNone)) rfl) _) rfl ?_
                    refine bsplit (!(s47).isNone) (fun hb54 => ?_) (fun hb54 => ?_)
                    · rw [if_pos hb54] at h
                      refine WL_call (gdY (b := (!(s47).isNone)) 65 rfl rfl hb54) (o_call Try.call12 argNil _) rfl (h.mono ?_)
                      rintro _ w55 ⟨x56, rfl, h⟩
                      refine WL_val gd0 ((o_pickT (v := .bool x56) rfl hb54 rfl) _) rfl ?_
                      refine WL_val gd0 ((o_assign (v := .bool x56) rfl) _) rfl ?_
                      refine WL_nil ?_
                      refine nrm ?_
                      refine WC_ret ?_
                      refine rtT ?_
                      refine rtE ?_
                      exact gv1 rfl rfl h
                    · rw [if_neg (neT hb54)] at h
                      refine WL_skip (gdN (b := (!(s47).isNone)) 65 rfl rfl hb54) rfl ?_
                      refine WL_val gd0 ((o_pickF (v := .bool false) rfl hb54 rfl) _) rfl ?_
                      refine WL_val gd0 ((o_assign (v := .bool false) rfl) _) rfl ?_
                      refine WL_nil ?_
                      refine nrm ?_
                      refine WC_ret ?_
                      refine rtT ?_
                      refine rtE ?_
                      exact gv1 rfl rfl h
                  · rw [if_neg (neT hb53)] at h
                    refine WC_skip ?_
                    refine nrm ?_
                    refine WC_seq ?_
                    refine WC_region ?_
                    have h := New.out h
                    refine WL_val gd0 (o_alloc (z := .agg #[.slice none 0 0, .slice none 0 0, .int .i64 0]) (cs := [.slice none 0 0, .slice none 0 0, .int .i64 0]) Try.zeroValue50 rfl) rfl ?_
                    generalize hp57 : fresh w52 = p57 at h ⊢
                    generalize hw58 : push w52 50 [.slice none 0 0, .slice none 0 0, .int .i64 0] = w58 at h ⊢
                    try dsimp only at h
                    refine WL_nil ?_
                    refine nrm ?_
                    refine WC_seq ?_
                    refine WC_region ?_
                    refine WL_val gd0 ((o_move (v := .slice l_a1 l_n2 l_c3) (by exact e0_48)) _) rfl ?_
                    refine WL_val gd0 ((o_len Try.underlying44 rfl) _) rfl ?_
                    refine WL_val gd0 ((fun w => o_quo rfl rfl w (by decide)) _) rfl ?_
                    refine WL_val gd0 ((o_assign (v := .int .i64 (IntKind.i64.wrap (Int.tdiv (l_n2 : Int) 2))) rfl) _) rfl ?_
                    refine WL_nil ?_
                    refine nrm ?_
                    refine WC_seq ?_
                    refine WC_seq ?_
                    refine WC_region ?_
                    refine WL_val gd0 ((o_assign (v := .int .i64 0) rfl) _) rfl ?_
                    refine WL_nil ?_
                    refine nrm ?_
                    refine WC_block ?_
                    obtain ⟨J65, ⟨n65, h0⟩, hr65⟩ := h
                    refine WC_loop (fun n ρ w' => ∃ (i64 : Int), ρ 8 = .int .i64 i64 ∧ ρ 0 = .slice l_a1 l_n2 l_c3 ∧ ρ 5 = .pointer s47 ∧ ρ 6 = .pointer (some p57) ∧ ρ 7 = .int .i64 (IntKind.i64.wrap (Int.tdiv (l_n2 : Int) 2)) ∧ J65 n i64 w') ⟨n65, _, rfl, e0_48, e5_49, rfl, rfl, h0⟩ ?_
                    rintro n65 ρ w65 ⟨i64, e8_63, e0_59, e5_60, e6_61, e7_62, h⟩
                    have h : F6_b2 l_n2 l_a1 s47 p57 i64 w65 k (fun x0 w => ∃ m, m < n65 ∧ J65 m x0 w) := hr65 n65 i64 w65 h
                    unfold F6_b2 at h
                    refine WC_seq ?_
                    refine WC_seq ?_
                    refine WC_region ?_
                    refine WL_val gd0 ((o_move (v := .int .i64 i64) (by exact e8_63)) _) rfl ?_
                    refine WL_val gd0 ((o_move (v := .int .i64 (IntKind.i64.wrap (Int.tdiv (l_n2 : Int) 2))) (by exact e7_62)) _) rfl ?_
                    refine WL_val gd0 ((o_lss rfl rfl) _) rfl ?_
                    refine WL_nil ?_
                    refine nrm ?_
                    refine WC_cond (t := (decide (i64 < (IntKind.i64.wrap (Int.tdiv (l_n2 : Int) 2))))) rfl (fun hb67 => ?_) (fun hb67 => ?_)
                    · rw [if_pos (of_decide_eq_true hb67)] at h
                      refine WC_skip ?_
                      refine nrm ?_
                      refine WC_seq ?_
                      refine WC_block ?_
                      refine WC_seq ?_
                      refine WC_region ?_
                      refine WL_val gd0 ((o_move (v := .pointer s47) (by exact e5_60)) _) rfl ?_
                      refine WL_val gd0 ((o_move (v := .slice l_a1 l_n2 l_c3) (by exact e0_59)) _) rfl ?_
                      refine WL_val gd0 ((o_move (v := .int .i64 i64) (by exact e8_63)) _) rfl ?_
                      obtain ⟨p70, q71, h⟩ := h
                      obtain ⟨l68, u69, h⟩ := h
                      refine WL_val gd0 ((o_indexAddr Try.underlying44 Try.sizeOf54 (by exact (congrArg (fun z => Value.slice z l_n2 l_c3) q71)) rfl l68 u69) _) rfl ?_
                      obtain ⟨x72, x73, x74, x75, x76, x_a77, x_n78, x_c79, hc80, h⟩ := h
                      refine WL_val gd0 (o_loadAgg (vs := [.int .u8 x72, .int .i64 x73, .int .i64 x74, .int .i64 x75, .bool x76, .slice x_a77 x_n78 x_c79]) Try.isAgg54 Try.sizeOf54 rfl hc80) rfl ?_
                      refine WL_call gd0 (o_call Try.call17 (argCons rfl (argCons (by exact e6_61) (argCons rfl (argCons rfl argNil)))) _) rfl (h.mono ?_)
                      rintro _ w81 ⟨x82, rfl, h⟩
                      refine WL_val gd0 ((o_not rfl) _) rfl ?_
                      refine WL_nil ?_
                      refine nrm ?_
                      refine WC_cond (t := (!x82)) rfl (fun hb83 => ?_) (fun hb83 => ?_)
                      · rw [if_pos hb83] at h
                        refine WC_seq ?_
                        refine WC_region ?_
                        refine WL_val gd0 ((o_assign (v := .bool false) rfl) _) rfl ?_
                        refine WL_nil ?_
                        refine nrm ?_
                        refine WC_ret ?_
                        refine rtB ?_
                        refine rtT ?_
                        refine rtT ?_
                        refine rtB ?_
                        refine rtT ?_
                        refine rtE ?_
                        exact gv1 rfl rfl h
                      · rw [if_neg (neT hb83)] at h
                        refine WC_skip ?_
                        refine nrmB ?_
                        refine nrm ?_
                        refine WC_region ?_
                        refine WL_val gd0 ((o_move (v := .int .i64 i64) (by exact e8_63)) _) rfl ?_
                        refine WL_val gd0 ((o_add rfl rfl) _) rfl ?_
                        refine WL_val gd0 ((o_assign (v := .int .i64 (IntKind.i64.wrap (i64 + 1))) rfl) _) rfl ?_
                        refine WL_nil ?_
                        refine nrm ?_
                        obtain ⟨m66, hm66, h⟩ := h
                        exact ⟨m66, hm66, _, rfl, e0_59, e5_60, e6_61, e7_62, h⟩
                    · rw [if_neg (of_decide_eq_false hb67)] at h
                      refine WC_exit ?_
                      refine exT ?_
                      refine exT ?_
                      refine exB ?_
                      refine nrm ?_
                      refine WC_seq ?_
                      refine WC_region ?_
                      refine WL_val gd0 ((o_move (v := .pointer s47) (by exact e5_60)) _) rfl ?_
                      refine WL_call gd0 (o_call Try.call15 (argCons rfl argNil) _) rfl (h.mono ?_)
                      rintro _ w84 ⟨c85, rfl, h⟩
                      refine WL_val gd0 ((o_assign (v := .pointer c85) rfl) _) rfl ?_
                      refine WL_nil ?_
                      refine nrm ?_
                      refine WC_seq ?_
                      refine WC_region ?_
                      obtain ⟨x_a86, x_n87, x_c88, x_a89, x_n90, x_c91, x92, hc93, h⟩ := h
                      refine WL_val gd0 (o_loadAgg (vs := [.slice x_a86 x_n87 x_c88, .slice x_a89 x_n90 x_c91, .int .i64 x92]) Try.isAgg50 Try.sizeOf50 (by exact e6_61) hc93) rfl ?_
                      have h := New.out h
                      refine WL_val gd0 (o_alloc (z := .agg #[.slice none 0 0, .slice none 0 0, .int .i64 0]) (cs := [.slice none 0 0, .slice none 0 0, .int .i64 0]) Try.zeroValue50 rfl) rfl ?_
                      generalize hp94 : fresh w84 = p94 at h ⊢
                      generalize hw95 : push w84 50 [.slice none 0 0, .slice none 0 0, .int .i64 0] = w95 at h ⊢
                      try dsimp only at h
                      obtain ⟨c97, h⟩ := h
                      refine WL_act gd0 (o_storeAgg (vs := [.slice x_a86 x_n87 x_c88, .slice x_a89 x_n90 x_c91, .int .i64 x92]) Try.sizeOf50 rfl rfl rfl c97) ?_
                      generalize hw96 : setAll w95 p94 0 [.slice x_a86 x_n87 x_c88, .slice x_a89 x_n90 x_c91, .int .i64 x92] = w96 at h ⊢
                      try dsimp only at h
                      refine WL_nil ?_
                      refine nrm ?_
                      refine WC_seq ?_
                      refine WC_seq ?_
                      refine WC_region ?_
                      refine WL_val gd0 ((o_move (v := .pointer c85) rfl) _) rfl ?_
                      refine WL_val gd0 ((o_eqlPtrNil Try.underlying22 rfl rfl) _) rfl ?_
                      refine WL_nil ?_
                      refine nrm ?_
                      refine WC_cond (t := ((c85).isNone)) rfl (fun hb98 => ?_) (fun hb98 => ?_)
                      · rw [if_pos hb98] at h
                        refine WC_seq ?_
                        refine WC_region ?_
                        refine WL_val gd0 ((o_assign (v := .bool false) rfl) _) rfl ?_
                        refine WL_nil ?_
                        refine nrm ?_
                        refine WC_ret ?_
                        refine rtT ?_
                        refine rtE ?_
                        exact gv1 rfl rfl h
                      · rw [if_neg (neT hb98)] at h
                        refine WC_skip ?_
                        refine nrm ?_
                        refine WC_seq ?_
                        refine WC_seq ?_
                        refine WC_region ?_
                        refine WL_val gd0 ((o_move (v := .int .i64 (IntKind.i64.wrap (Int.tdiv (l_n2 : Int) 2))) (by exact e7_62)) _) rfl ?_
                        refine WL_val gd0 ((o_assign (v := .int .i64 (IntKind.i64.wrap (Int.tdiv (l_n2 : Int) 2))) rfl) _) rfl ?_
                        refine WL_nil ?_
                        refine nrm ?_
                        refine WC_block ?_
                        obtain ⟨J106, ⟨n106, h0⟩, hr106⟩ := h
                        refine WC_loop (fun n ρ w' => ∃ (i105 : Int), ρ 11 = .int .i64 i105 ∧ ρ 0 = .slice l_a1 l_n2 l_c3 ∧ ρ 5 = .pointer s47 ∧ ρ 6 = .pointer (some p57) ∧ ρ 9 = .pointer c85 ∧ ρ 10 = .pointer (some p94) ∧ J106 n i105 w') ⟨n106, _, rfl, e0_59, e5_60, e6_61, rfl, rfl, h0⟩ ?_
                        rintro n106 ρ w106 ⟨i105, e11_104, e0_99, e5_100, e6_101, e9_102, e10_103, h⟩
                        have h : F6_b3 l_n2 l_a1 s47 p57 c85 p94 i105 w106 k (fun x0 w => ∃ m, m < n106 ∧ J106 m x0 w) := hr106 n106 i105 w106 h
                        unfold F6_b3 at h
                        refine WC_seq ?_
                        refine WC_seq ?_
                        refine WC_region ?_
                        refine WL_val gd0 ((o_move (v := .int .i64 i105) (by exact e11_104)) _) rfl ?_
                        refine WL_val gd0 ((o_move (v := .slice l_a1 l_n2 l_c3) (by exact e0_99)) _) rfl ?_
                        refine WL_val gd0 ((o_len Try.underlying44 rfl) _) rfl ?_
                        refine WL_val gd0 ((o_lss rfl rfl) _) rfl ?_
                        refine WL_nil ?_
                        refine nrm ?_
                        refine WC_cond (t := (decide (i105 < (l_n2 : Int)))) rfl (fun hb108 => ?_) (fun hb108 => ?_)
                        · rw [if_pos (of_decide_eq_true hb108)] at h
                          refine WC_skip ?_
                          refine nrm ?_
                          refine WC_seq ?_
                          refine WC_block ?_
                          refine WC_seq ?_
                          refine WC_region ?_
                          refine WL_val gd0 ((o_move (v := .int .i64 i105) (by exact e11_104)) _) rfl ?_
                          refine WL_val gd0 ((fun w => o_rem rfl rfl w (by decide)) _) rfl ?_
                          refine WL_val gd0 ((o_eql rfl rfl) _) rfl ?_
                          refine WL_val gd0 ((o_move (v := .bool (decide ((Int.tmod i105 2) = 0))) rfl) _) rfl ?_
                          refine bsplit (decide ((Int.tmod i105 2) = 0)) (fun hb109 => ?_) (fun hb109 => ?_)
                          · rw [if_pos (of_decide_eq_true hb109)] at h
                            refine WL_val (gdY (b := (decide ((Int.tmod i105 2) = 0))) 98 rfl rfl hb109) ((o_move (v := .pointer s47) (by exact e5_100)) _) rfl ?_
                            refine WL_val (gdY (b := (decide ((Int.tmod i105 2) = 0))) 98 rfl rfl hb109) ((o_move (v := .slice l_a1 l_n2 l_c3) (by exact e0_99)) _) rfl ?_
                            refine WL_val (gdY (b := (decide ((Int.tmod i105 2) = 0))) 98 rfl rfl hb109) ((o_move (v := .int .i64 i105) (by exact e11_104)) _) rfl ?_
                            obtain ⟨p112, q113, h⟩ := h
                            obtain ⟨l110, u111, h⟩ := h
                            refine WL_val (gdY (b := (decide ((Int.tmod i105 2) = 0))) 98 rfl rfl hb109) ((o_indexAddr Try.underlying44 Try.sizeOf54 (by exact (congrArg (fun z => Value.slice z l_n2 l_c3) q113)) rfl l110 u111) _) rfl ?_
                            obtain ⟨x114, x115, x116, x117, x118, x_a119, x_n120, x_c121, hc122, h⟩ := h
                            refine WL_val (gdY (b := (decide ((Int.tmod i105 2) = 0))) 98 rfl rfl hb109) (o_loadAgg (vs := [.int .u8 x114, .int .i64 x115, .int .i64 x116, .int .i64 x117, .bool x118, .slice x_a119 x_n120 x_c121]) Try.isAgg54 Try.sizeOf54 rfl hc122) rfl ?_
                            refine WL_call (gdY (b := (decide ((Int.tmod i105 2) = 0))) 98 rfl rfl hb109) (o_call Try.call17 (argCons rfl (argCons (by exact e6_101) (argCons rfl (argCons rfl argNil)))) _) rfl (h.mono ?_)
                            rintro _ w123 ⟨x124, rfl, h⟩
                            refine WL_val (gdY (b := (decide ((Int.tmod i105 2) = 0))) 98 rfl rfl hb109) ((o_not rfl) _) rfl ?_
                            refine WL_val gd0 ((o_pickT (v := .bool (!x124)) rfl hb109 rfl) _) rfl ?_
                            refine WL_val gd0 ((o_move (v := .bool (!x124)) rfl) _) rfl ?_
                            refine bsplit (!x124) (fun hb125 => ?_) (fun hb125 => ?_)
                            · rw [if_pos hb125] at h
                              refine WL_skip (gdN (b := (!x124)) 107 rfl rfl hb125) rfl ?_
                              refine WL_skip (gdN (b := (!x124)) 107 rfl rfl hb125) rfl ?_
                              refine WL_skip (gdN (b := (!x124)) 107 rfl rfl hb125) rfl ?_
                              refine WL_skip (gdN (b := (!x124)) 107 rfl rfl hb125) rfl ?_
                              refine WL_skip (gdU 111 rfl rfl) rfl ?_
                              refine WL_skip (gdU 111 rfl rfl) rfl ?_
                              refine WL_skip (gdU 111 rfl rfl) rfl ?_
                              refine WL_skip (gdU 111 rfl rfl) rfl ?_
                              refine WL_skip (gdU 111 rfl rfl) rfl ?_
                              refine WL_skip (gdU 111 rfl rfl) rfl ?_
                              refine WL_skip (gdU 111 rfl rfl) rfl ?_
                              refine WL_skip (gdN (b := (!x124)) 107 rfl rfl hb125) rfl ?_
                              refine WL_val gd0 ((o_pickT (v := .bool true) rfl hb125 rfl) _) rfl ?_
                              refine WL_nil ?_
                              refine nrm ?_
                              refine WC_cond (t := true) rfl (fun _ => ?_) (fun hx => by rw [(rfl : true = true)] at hx; cases hx)
                              refine WC_seq ?_
                              refine WC_region ?_
                              refine WL_val gd0 ((o_assign (v := .bool false) rfl) _) rfl ?_
                              refine WL_nil ?_
                              refine nrm ?_
                              refine WC_ret ?_
                              refine rtB ?_
                              refine rtT ?_
                              refine rtT ?_
                              refine rtB ?_
                              refine rtT ?_
                              refine rtE ?_
                              exact gv1 rfl rfl h
                            · rw [if_neg (neT hb125)] at h
                              refine WL_val (gdY (b := (!x124)) 107 rfl rfl hb125) ((o_move (v := .int .i64 i105) (by exact e11_104)) _) rfl ?_
                              refine WL_val (gdY (b := (!x124)) 107 rfl rfl hb125) ((fun w => o_rem rfl rfl w (by decide)) _) rfl ?_
                              refine WL_val (gdY (b := (!x124)) 107 rfl rfl hb125) ((o_eql rfl rfl) _) rfl ?_
                              refine WL_val (gdY (b := (!x124)) 107 rfl rfl hb125) ((o_move (v := .bool (decide ((Int.tmod i105 2) = 1))) rfl) _) rfl ?_
                              refine bsplit (decide ((Int.tmod i105 2) = 1)) (fun hb126 => ?_) (fun hb126 => ?_)
                              · rw [if_pos (of_decide_eq_true hb126)] at h
                                refine WL_val (gdY (b := (decide ((Int.tmod i105 2) = 1))) 111 rfl rfl hb126) ((o_move (v := .pointer c85) (by exact e9_102)) _) rfl ?_
                                refine WL_val (gdY (b := (decide ((Int.tmod i105 2) = 1))) 111 rfl rfl hb126) ((o_move (v := .slice l_a1 l_n2 l_c3) (by exact e0_99)) _) rfl ?_
                                refine WL_val (gdY (b := (decide ((Int.tmod i105 2) = 1))) 111 rfl rfl hb126) ((o_move (v := .int .i64 i105) (by exact e11_104)) _) rfl ?_
                                obtain ⟨l127, u128, h⟩ := h
                                refine WL_val (gdY (b := (decide ((Int.tmod i105 2) = 1))) 111 rfl rfl hb126) ((o_indexAddr Try.underlying44 Try.sizeOf54 (by exact (congrArg (fun z => Value.slice z l_n2 l_c3) q113)) rfl l127 u128) _) rfl ?_
                                obtain ⟨x129, x130, x131, x132, x133, x_a134, x_n135, x_c136, hc137, h⟩ := h
                                refine WL_val (gdY (b := (decide ((Int.tmod i105 2) = 1))) 111 rfl rfl hb126) (o_loadAgg (vs := [.int .u8 x129, .int .i64 x130, .int .i64 x131, .int .i64 x132, .bool x133, .slice x_a134 x_n135 x_c136]) Try.isAgg54 Try.sizeOf54 rfl hc137) rfl ?_
                                refine WL_call (gdY (b := (decide ((Int.tmod i105 2) = 1))) 111 rfl rfl hb126) (o_call Try.call17 (argCons rfl (argCons (by exact e10_103) (argCons rfl (argCons rfl argNil)))) _) rfl (h.mono ?_)
                                rintro _ w138 ⟨x139, rfl, h⟩
                                refine WL_val (gdY (b := (decide ((Int.tmod i105 2) = 1))) 111 rfl rfl hb126) ((o_not rfl) _) rfl ?_
                                refine WL_val (gdY (b := (!x124)) 107 rfl rfl hb125) ((o_pickT (v := .bool (!x139)) rfl hb126 rfl) _) rfl ?_
                                refine WL_val gd0 ((o_pickF (v := .bool (!x139)) rfl hb125 rfl) _) rfl ?_
                                refine WL_nil ?_
                                refine nrm ?_
                                refine WC_cond (t := (!x139)) rfl (fun hb140 => ?_) (fun hb140 => ?_)
                                · rw [if_pos hb140] at h
                                  refine WC_seq ?_
                                  refine WC_region ?_
                                  refine WL_val gd0 ((o_assign (v := .bool false) rfl) _) rfl ?_
                                  refine WL_nil ?_
                                  refine nrm ?_
                                  refine WC_ret ?_
                                  refine rtB ?_
                                  refine rtT ?_
                                  refine rtT ?_
                                  refine rtB ?_
                                  refine rtT ?_
                                  refine rtE ?_
                                  exact gv1 rfl rfl h
                                · rw [if_neg (neT hb140)] at h
                                  refine WC_skip ?_
                                  refine nrmB ?_
                                  refine nrm ?_
                                  refine WC_region ?_
                                  refine WL_val gd0 ((o_move (v := .int .i64 i105) (by exact e11_104)) _) rfl ?_
                                  refine WL_val gd0 ((o_add rfl rfl) _) rfl ?_
                                  refine WL_val gd0 ((o_assign (v := .int .i64 (IntKind.i64.wrap (i105 + 1))) rfl) _) rfl ?_
                                  refine WL_nil ?_
                                  refine nrm ?_
                                  obtain ⟨m107, hm107, h⟩ := h
                                  exact ⟨m107, hm107, _, rfl, e0_99, e5_100, e6_101, e9_102, e10_103, h⟩
                              · rw [if_neg (of_decide_eq_false hb126)] at h
                                refine WL_skip (gdN (b := (decide ((Int.tmod i105 2) = 1))) 111 rfl rfl hb126) rfl ?_
                                refine WL_skip (gdN (b := (decide ((Int.tmod i105 2) = 1))) 111 rfl rfl hb126) rfl ?_
                                refine WL_skip (gdN (b := (decide ((Int.tmod i105 2) = 1))) 111 rfl rfl hb126) rfl ?_
                                refine WL_skip (gdN (b := (decide ((Int.tmod i105 2) = 1))) 111 rfl rfl hb126) rfl ?_
                                refine WL_skip (gdN (b := (decide ((Int.tmod i105 2) = 1))) 111 rfl rfl hb126) rfl ?_
                                refine WL_skip (gdN (b := (decide ((Int.tmod i105 2) = 1))) 111 rfl rfl hb126) rfl ?_
                                refine WL_skip (gdN (b := (decide ((Int.tmod i105 2) = 1))) 111 rfl rfl hb126) rfl ?_
                                refine WL_val (gdY (b := (!x124)) 107 rfl rfl hb125) ((o_pickF (v := .bool false) rfl hb126 rfl) _) rfl ?_
                                refine WL_val gd0 ((o_pickF (v := .bool false) rfl hb125 rfl) _) rfl ?_
                                refine WL_nil ?_
                                refine nrm ?_
                                refine WC_cond (t := false) rfl (fun hx => by rw [(rfl : false = false)] at hx; cases hx) (fun _ => ?_)
                                refine WC_skip ?_
                                refine nrmB ?_
                                refine nrm ?_
                                refine WC_region ?_
                                refine WL_val gd0 ((o_move (v := .int .i64 i105) (by exact e11_104)) _) rfl ?_
                                refine WL_val gd0 ((o_add rfl rfl) _) rfl ?_
                                refine WL_val gd0 ((o_assign (v := .int .i64 (IntKind.i64.wrap (i105 + 1))) rfl) _) rfl ?_
                                refine WL_nil ?_
                                refine nrm ?_
                                obtain ⟨m107, hm107, h⟩ := h
                                exact ⟨m107, hm107, _, rfl, e0_99, e5_100, e6_101, e9_102, e10_103, h⟩
                          · rw [if_neg (of_decide_eq_false hb109)] at h
                            refine WL_skip (gdN (b := (decide ((Int.tmod i105 2) = 0))) 98 rfl rfl hb109) rfl ?_
                            refine WL_skip (gdN (b := (decide ((Int.tmod i105 2) = 0))) 98 rfl rfl hb109) rfl ?_
                            refine WL_skip (gdN (b := (decide ((Int.tmod i105 2) = 0))) 98 rfl rfl hb109) rfl ?_
                            refine WL_skip (gdN (b := (decide ((Int.tmod i105 2) = 0))) 98 rfl rfl hb109) rfl ?_
                            refine WL_skip (gdN (b := (decide ((Int.tmod i105 2) = 0))) 98 rfl rfl hb109) rfl ?_
                            refine WL_skip (gdN (b := (decide ((Int.tmod i105 2) = 0))) 98 rfl rfl hb109) rfl ?_
                            refine WL_skip (gdN (b := (decide ((Int.tmod i105 2) = 0))) 98 rfl rfl hb109) rfl ?_
                            refine WL_val gd0 ((o_pickF (v := .bool false) rfl hb109 rfl) _) rfl ?_
                            refine WL_val gd0 ((o_move (v := .bool false) rfl) _) rfl ?_
                            refine WL_val (gdY (b := false) 107 rfl rfl rfl) ((o_move (v := .int .i64 i105) (by exact e11_104)) _) rfl ?_
                            refine WL_val (gdY (b := false) 107 rfl rfl rfl) ((fun w => o_rem rfl rfl w (by decide)) _) rfl ?_
                            refine WL_val (gdY (b := false) 107 rfl rfl rfl) ((o_eql rfl rfl) _) rfl ?_
                            refine WL_val (gdY (b := false) 107 rfl rfl rfl) ((o_move (v := .bool (decide ((Int.tmod i105 2) = 1))) rfl) _) rfl ?_
                            refine bsplit (decide ((Int.tmod i105 2) = 1)) (fun hb141 => ?_) (fun hb141 => ?_)
                            · rw [if_pos (of_decide_eq_true hb141)] at h
                              refine WL_val (gdY (b := (decide ((Int.tmod i105 2) = 1))) 111 rfl rfl hb141) ((o_move (v := .pointer c85) (by exact e9_102)) _) rfl ?_
                              refine WL_val (gdY (b := (decide ((Int.tmod i105 2) = 1))) 111 rfl rfl hb141) ((o_move (v := .slice l_a1 l_n2 l_c3) (by exact e0_99)) _) rfl ?_
                              refine WL_val (gdY (b := (decide ((Int.tmod i105 2) = 1))) 111 rfl rfl hb141) ((o_move (v := .int .i64 i105) (by exact e11_104)) _) rfl ?_
                              obtain ⟨p144, q145, h⟩ := h
                              obtain ⟨l142, u143, h⟩ := h
                              refine WL_val (gdY (b := (decide ((Int.tmod i105 2) = 1))) 111 rfl rfl hb141) ((o_indexAddr Try.underlying44 Try.sizeOf54 (by exact (congrArg (fun z => Value.slice z l_n2 l_c3) q145)) rfl l142 u143) _) rfl ?_
                              obtain ⟨x146, x147, x148, x149, x150, x_a151, x_n152, x_c153, hc154, h⟩ := h
                              refine WL_val (gdY (b := (decide ((Int.tmod i105 2) = 1))) 111 rfl rfl hb141) (o_loadAgg (vs := [.int .u8 x146, .int .i64 x147, .int .i64 x148, .int .i64 x149, .bool x150, .slice x_a151 x_n152 x_c153]) Try.isAgg54 Try.sizeOf54 rfl hc154) rfl ?_
                              refine WL_call (gdY (b := (decide ((Int.tmod i105 2) = 1))) 111 rfl rfl hb141) (o_call Try.call17 (argCons rfl (argCons (by exact e10_103) (argCons rfl (argCons rfl argNil)))) _) rfl (h.mono ?_)
                              rintro _ w155 ⟨x156, rfl, h⟩
                              refine WL_val (gdY (b := (decide ((Int.tmod i105 2) = 1))) 111 rfl rfl hb141) ((o_not rfl) _) rfl ?_
                              refine WL_val (gdY (b := false) 107 rfl rfl rfl) ((o_pickT (v := .bool (!x156)) rfl hb141 rfl) _) rfl ?_
                              refine WL_val gd0 ((o_pickF (v := .bool (!x156)) rfl rfl rfl) _) rfl ?_
                              refine WL_nil ?_
                              refine nrm ?_
                              refine WC_cond (t := (!x156)) rfl (fun hb157 => ?_) (fun hb157 => ?_)
                              · rw [if_pos hb157] at h
                                refine WC_seq ?_
                                refine WC_region ?_
                                refine WL_val gd0 ((o_assign (v := .bool false) rfl) _) rfl ?_
                                refine WL_nil ?_
                                refine nrm ?_
                                refine WC_ret ?_
                                refine rtB ?_
                                refine rtT ?_
                                refine rtT ?_
                                refine rtB ?_
                                refine rtT ?_
                                refine rtE ?_
                                exact gv1 rfl rfl h
                              · rw [if_neg (neT hb157)] at h
                                refine WC_skip ?_
                                refine nrmB ?_
                                refine nrm ?_
                                refine WC_region ?_
                                refine WL_val gd0 ((o_move (v := .int .i64 i105) (by exact e11_104)) _) rfl ?_
                                refine WL_val gd0 ((o_add rfl rfl) _) rfl ?_
                                refine WL_val gd0 ((o_assign (v := .int .i64 (IntKind.i64.wrap (i105 + 1))) rfl) _) rfl ?_
                                refine WL_nil ?_
                                refine nrm ?_
                                obtain ⟨m107, hm107, h⟩ := h
                                exact ⟨m107, hm107, _, rfl, e0_99, e5_100, e6_101, e9_102, e10_103, h⟩
                            · rw [if_neg (of_decide_eq_false hb141)] at h
                              refine WL_skip (gdN (b := (decide ((Int.tmod i105 2) = 1))) 111 rfl rfl hb141) rfl ?_
                              refine WL_skip (gdN (b := (decide ((Int.tmod i105 2) = 1))) 111 rfl rfl hb141) rfl ?_
                              refine WL_skip (gdN (b := (decide ((Int.tmod i105 2) = 1))) 111 rfl rfl hb141) rfl ?_
                              refine WL_skip (gdN (b := (decide ((Int.tmod i105 2) = 1))) 111 rfl rfl hb141) rfl ?_
                              refine WL_skip (gdN (b := (decide ((Int.tmod i105 2) = 1))) 111 rfl rfl hb141) rfl ?_
                              refine WL_skip (gdN (b := (decide ((Int.tmod i105 2) = 1))) 111 rfl rfl hb141) rfl ?_
                              refine WL_skip (gdN (b := (decide ((Int.tmod i105 2) = 1))) 111 rfl rfl hb141) rfl ?_
                              refine WL_val (gdY (b := false) 107 rfl rfl rfl) ((o_pickF (v := .bool false) rfl hb141 rfl) _) rfl ?_
                              refine WL_val gd0 ((o_pickF (v := .bool false) rfl rfl rfl) _) rfl ?_
                              refine WL_nil ?_
                              refine nrm ?_
                              refine WC_cond (t := false) rfl (fun hx => by rw [(rfl : false = false)] at hx; cases hx) (fun _ => ?_)
                              refine WC_skip ?_
                              refine nrmB ?_
                              refine nrm ?_
                              refine WC_region ?_
                              refine WL_val gd0 ((o_move (v := .int .i64 i105) (by exact e11_104)) _) rfl ?_
                              refine WL_val gd0 ((o_add rfl rfl) _) rfl ?_
                              refine WL_val gd0 ((o_assign (v := .int .i64 (IntKind.i64.wrap (i105 + 1))) rfl) _) rfl ?_
                              refine WL_nil ?_
                              refine nrm ?_
                              obtain ⟨m107, hm107, h⟩ := h
                              exact ⟨m107, hm107, _, rfl, e0_99, e5_100, e6_101, e9_102, e10_103, h⟩
                        · rw [if_neg (of_decide_eq_false hb108)] at h
                          refine WC_exit ?_
                          refine exT ?_
                          refine exT ?_
                          refine exB ?_
                          refine nrm ?_
                          refine WC_seq ?_
                          refine WC_draws [1, 4, 7, 10, 13] (.look 0 (.look 2 (.look 3 (.act 1 (.act 4 (.look 5 (.look 6 (.look 8 (.look 9 (.act 7 (.act 10 (.look 11 (.look 12 (.act 13 (.look 14 (.look 15 .nil)))))))))))))))) Try.mixed (by kernel_rfl) ?_
                          refine WQ_val rfl gd0 (o_move (v := .pointer s47) (by exact e5_100)) rfl ?_
                          refine WQ_val rfl gd0 (o_fieldAddr0 Try.underlying50 rfl Try.sizeOf28 rfl rfl (by exact e6_101)) rfl ?_
                          obtain ⟨x_a158, x_n159, x_c160, hc161, h⟩ := h
                          refine WQ_look (fun w => w.cell? p57 = some (.slice x_a158 x_n159 x_c160)) rfl gd0 (fun w hc => (o_load Try.isAgg28 rfl hc)) hc161 rfl ?_
                          refine WQ_call rfl gd0 (o_call Try.call11 (argCons rfl argNil) _) rfl (h.mono ?_)
                          rintro _ w162 ⟨x_a163, x_n164, x_c165, rfl, hh166, h⟩
                          refine ⟨⟨trivial, fun _ => hh166⟩, ?_⟩
                          refine WQ_call rfl gd0 (o_call Try.call18 (argCons rfl (argCons rfl argNil)) _) rfl (h.mono ?_)
                          rintro _ w167 ⟨x168, rfl, h⟩
                          refine ⟨⟨trivial, depT (by kernel_rfl)⟩, ?_⟩
                          refine WQ_val rfl gd0 (o_move (v := .bool x168) rfl) rfl ?_
                          refine bsplit x168 (fun hb169 => ?_) (fun hb169 => ?_)
                          · rw [if_pos hb169] at h
                            refine WQ_val rfl (gdY (b := x168) 126 rfl rfl hb169) (o_move (v := .pointer c85) (by exact e9_102)) rfl ?_
                            refine WQ_val rfl (gdY (b := x168) 126 rfl rfl hb169) (o_fieldAddr0 Try.underlying50 rfl Try.sizeOf28 rfl rfl (by exact e10_103)) rfl ?_
                            obtain ⟨x_a170, x_n171, x_c172, hc173, h⟩ := h
                            refine WQ_look (fun w => w.cell? p94 = some (.slice x_a170 x_n171 x_c172)) rfl (gdY (b := x168) 126 rfl rfl hb169) (fun w hc => (o_load Try.isAgg28 rfl hc)) hc173 rfl ?_
                            refine WQ_call rfl (gdY (b := x168) 126 rfl rfl hb169) (o_call Try.call11 (argCons rfl argNil) _) rfl (h.mono ?_)
                            rintro _ w174 ⟨x_a175, x_n176, x_c177, rfl, hh178, h⟩
                            refine ⟨⟨⟨trivial, depT (by kernel_rfl)⟩, fun _ => hh178⟩, ?_⟩
                            refine WQ_call rfl (gdY (b := x168) 126 rfl rfl hb169) (o_call Try.call18 (argCons rfl (argCons rfl argNil)) _) rfl (h.mono ?_)
                            rintro _ w179 ⟨x180, rfl, h⟩
                            refine ⟨⟨⟨trivial, depT (by kernel_rfl)⟩, depT (by kernel_rfl)⟩, ?_⟩
                            refine WQ_val rfl gd0 (o_pickT (v := .bool x180) rfl hb169 rfl) rfl ?_
                            refine WQ_val rfl gd0 (o_move (v := .bool x180) rfl) rfl ?_
                            refine bsplit x180 (fun hb181 => ?_) (fun hb181 => ?_)
                            · rw [if_pos hb181] at h
                              refine WQ_call rfl (gdY (b := x180) 133 rfl rfl hb181) (o_call Try.call12 argNil _) rfl (h.mono ?_)
                              rintro _ w182 ⟨x183, rfl, h⟩
                              refine ⟨⟨⟨trivial, depT (by kernel_rfl)⟩, depT (by kernel_rfl)⟩, ?_⟩
                              refine WQ_val rfl gd0 (o_pickT (v := .bool x183) rfl hb181 rfl) rfl ?_
                              refine WQ_val rfl gd0 (o_assign (v := .bool x183) rfl) rfl ?_
                              refine WQ_nil ?_
                              refine nrm ?_
                              refine WC_ret ?_
                              refine rtE ?_
                              exact gv1 rfl rfl h
                            · rw [if_neg (neT hb181)] at h
                              refine WQ_passAct rfl (gdN (b := x180) 133 rfl rfl hb181) rfl (by exact ⟨⟨trivial, depT (by kernel_rfl)⟩, depT (by kernel_rfl)⟩) ?_
                              refine WQ_val rfl gd0 (o_pickF (v := .bool false) rfl hb181 rfl) rfl ?_
                              refine WQ_val rfl gd0 (o_assign (v := .bool false) rfl) rfl ?_
                              refine WQ_nil ?_
                              refine nrm ?_
                              refine WC_ret ?_
                              refine rtE ?_
                              exact gv1 rfl rfl h
                          · rw [if_neg (neT hb169)] at h
                            refine WQ_skip rfl (gdN (b := x168) 126 rfl rfl hb169) rfl ?_
                            refine WQ_skip rfl (gdN (b := x168) 126 rfl rfl hb169) rfl ?_
                            refine WQ_skip rfl (gdN (b := x168) 126 rfl rfl hb169) rfl ?_
                            refine WQ_passAct rfl (gdN (b := x168) 126 rfl rfl hb169) rfl (by exact ⟨trivial, depT (by kernel_rfl)⟩) ?_
                            refine WQ_passAct rfl (gdN (b := x168) 126 rfl rfl hb169) rfl (by exact ⟨trivial, depT (by kernel_rfl)⟩) ?_
                            refine WQ_val rfl gd0 (o_pickF (v := .bool false) rfl hb169 rfl) rfl ?_
                            refine WQ_val rfl gd0 (o_move (v := .bool false) rfl) rfl ?_
                            refine WQ_passAct rfl (gdN (b := false) 133 rfl rfl rfl) rfl (by exact ⟨trivial, depT (by kernel_rfl)⟩) ?_
                            refine WQ_val rfl gd0 (o_pickF (v := .bool false) rfl rfl rfl) rfl ?_
                            refine WQ_val rfl gd0 (o_assign (v := .bool false) rfl) rfl ?_
                            refine WQ_nil ?_
                            refine nrm ?_
                            refine WC_ret ?_
                            refine rtE ?_
                            exact gv1 rfl rfl h

def F7_b2 (l_n5 : Nat) (l_a4 : Option Addr) (s9 : Option Addr) (p23 : Addr) (r21 : Option Addr) (i30 : Int) (w31 : World) (k : Value → World → Prop) (nx31 : Int → World → Prop) : Prop :=
  if i30 < (l_n5 : Int) then
  ∃ (p36 : Addr), l_a4 = some p36 ∧ (0 : Int) ≤ i30 ∧ i30 < (l_n5 : Int) ∧ ∃ (x38 x39 x40 x41 : Int) (x42 : Bool) (x_a43 : Option Addr) (x_n44 x_c45 : Nat), Cells w31.drew (p36.add (i30.toNat * 6)) 0 [.int .u8 x38, .int .i64 x39, .int .i64 x40, .int .i64 x41, .bool x42, .slice x_a43 x_n44 x_c45] ∧ Does Try.prog 17 #[.pointer s9, .pointer (some p23), .agg #[.int .u8 x38, .int .i64 x39, .int .i64 x40, .int .i64 x41, .bool x42, .slice x_a43 x_n44 x_c45], .pointer r21] w31.drew (fun v w47 => ∃ (x48 : Bool), v = .bool x48 ∧ if (!x48) = true then
    k (.bool false) w47
  else
    ∃ (x_a50 : Option Addr) (x_n51 x_c52 : Nat), w47.cell? p23 = some (.slice x_a50 x_n51 x_c52) ∧ Does Try.prog 11 #[.pointer s9] w47 (fun v w54 => ∃ (x_a55 : Option Addr) (x_n56 x_c57 : Nat), v = .slice x_a55 x_n56 x_c57 ∧ w54.cell? p23 = some (.slice x_a50 x_n51 x_c52) ∧ Does Try.prog 18 #[.slice x_a55 x_n56 x_c57, .slice x_a50 x_n51 x_c52] w54 (fun v w59 => ∃ (x60 : Bool), v = .bool x60 ∧ if (!x60) = true then
      k (.bool false) w59
    else
      nx31 (IntKind.i64.wrap (i30 + 1)) w59)))
else
  Does Try.prog 12 #[] w31 (fun v w62 => ∃ (t63 : Bool), v = .bool t63 ∧ k (.bool t63) w62)
def F7_j1 (s9 : Option Addr) (defs_a1 : Option Addr) (defs_n2 : Nat) (defs_c3 : Nat) (l_n5 : Nat) (l_a4 : Option Addr) (t14 : Bool) (w15 : World) (k : Value → World → Prop) : Prop :=
  if t14 = true then
  if (!(s9).isNone) = true then
    Does Try.prog 12 #[] w15 (fun v w18 => ∃ (x19 : Bool), v = .bool x19 ∧ k (.bool x19) w18)
  else
    k (.bool false) w15
else
  Does Try.prog 19 #[.slice defs_a1 defs_n2 defs_c3] w15 (fun v w20 => ∃ (r21 : Option Addr) (r22 : Int), v = .tuple #[.pointer r21, .int .i64 r22] ∧ New w20 50 [.slice none 0 0, .slice none 0 0, .int .i64 0] (fun p23 w24 => LoopP (fun (s : Int) w' nx' => F7_b2 l_n5 l_a4 s9 p23 r21 s w' k (fun x0 w => nx' x0 w)) 0 w24))
/-- spacecraft spacecraftlaw34.HkPlays -/
def F7 (defs_a1 : Option Addr) (defs_n2 : Nat) (defs_c3 : Nat) (l_a4 : Option Addr) (l_n5 : Nat) (l_c6 : Nat) (w7 : World) (k : Value → World → Prop) : Prop :=
  Does Try.prog 8 #[] w7 (fun v w8 => ∃ (s9 : Option Addr), v = .pointer s9 ∧ Does Try.prog 16 #[.slice l_a4 l_n5 l_c6] w8 (fun v w64 => ∃ (x65 : Bool), v = .bool x65 ∧ if (!x65) = true then
  F7_j1 s9 defs_a1 defs_n2 defs_c3 l_n5 l_a4 true w64 k
else
  if 40 < (defs_n2 : Int) then
    F7_j1 s9 defs_a1 defs_n2 defs_c3 l_n5 l_a4 true w64 k
  else
    F7_j1 s9 defs_a1 defs_n2 defs_c3 l_n5 l_a4 ((s9).isNone) w64 k))
set_option maxRecDepth 100000 in
set_option maxHeartbeats 2000000 in
theorem w7 (defs_a1 : Option Addr) (defs_n2 : Nat) (defs_c3 : Nat) (l_a4 : Option Addr) (l_n5 : Nat) (l_c6 : Nat) (w7 : World) (k : Value → World → Prop) (h : F7 defs_a1 defs_n2 defs_c3 l_a4 l_n5 l_c6 w7 k) : Does Try.prog 7 #[.slice defs_a1 defs_n2 defs_c3, .slice l_a4 l_n5 l_c6] w7 k := by
  refine enter 56 Try.func7 rfl rfl rfl ?_
  intro ρ hρ
  have e0 := hρ 0 _ rfl
  have e1 := hρ 1 _ rfl
  unfold F7 at h
  refine WC_seq ?_
  refine WC_region ?_
  refine WL_val gd0 ((o_assign (v := .bool false) rfl) _) rfl ?_
  refine WL_nil ?_
  refine nrm ?_
  refine WC_seq ?_
  refine WC_region ?_
  refine WL_call gd0 (o_call Try.call8 argNil _) rfl (h.mono ?_)
  rintro _ w8 ⟨s9, rfl, h⟩
  refine WL_val gd0 ((o_assign (v := .pointer s9) rfl) _) rfl ?_
  refine WL_nil ?_
  refine nrm ?_
  refine WC_seq ?_
  refine WC_cut (fun ρ w' => ∃ (t14 : Bool), ρ 22 = .bool t14 ∧ ρ 0 = .slice defs_a1 defs_n2 defs_c3 ∧ ρ 1 = .slice l_a4 l_n5 l_c6 ∧ ρ 5 = .pointer s9 ∧ F7_j1 s9 defs_a1 defs_n2 defs_c3 l_n5 l_a4 t14 w' k) ?_ ?_
  · refine WC_region ?_
    refine WL_val gd0 ((o_move (v := .slice l_a4 l_n5 l_c6) (by exact e1)) _) rfl ?_
    refine WL_call gd0 (o_call Try.call16 (argCons rfl argNil) _) rfl (h.mono ?_)
    rintro _ w64 ⟨x65, rfl, h⟩
    refine WL_val gd0 ((o_not rfl) _) rfl ?_
    refine WL_val gd0 ((o_move (v := .bool (!x65)) rfl) _) rfl ?_
    refine bsplit (!x65) (fun hb66 => ?_) (fun hb66 => ?_)
    · rw [if_pos hb66] at h
      refine WL_skip (gdN (b := (!x65)) 14 rfl rfl hb66) rfl ?_
      refine WL_skip (gdN (b := (!x65)) 14 rfl rfl hb66) rfl ?_
      refine WL_skip (gdN (b := (!x65)) 14 rfl rfl hb66) rfl ?_
      refine WL_val gd0 ((o_pickT (v := .bool true) rfl hb66 rfl) _) rfl ?_
      refine WL_val gd0 ((o_move (v := .bool true) rfl) _) rfl ?_
      refine WL_skip (gdN (b := true) 19 rfl rfl rfl) rfl ?_
      refine WL_skip (gdN (b := true) 19 rfl rfl rfl) rfl ?_
      refine WL_val gd0 ((o_pickT (v := .bool true) rfl rfl rfl) _) rfl ?_
      refine WL_nil ?_
      refine nrm ?_
      exact ⟨_, rfl, e0, e1, rfl, h⟩
    · rw [if_neg (neT hb66)] at h
      refine WL_val (gdY (b := (!x65)) 14 rfl rfl hb66) ((o_move (v := .slice defs_a1 defs_n2 defs_c3) (by exact e0)) _) rfl ?_
      refine WL_val (gdY (b := (!x65)) 14 rfl rfl hb66) ((o_len Try.underlying56 rfl) _) rfl ?_
      refine WL_val (gdY (b := (!x65)) 14 rfl rfl hb66) ((o_gtr rfl rfl) _) rfl ?_
      refine WL_val gd0 ((o_pickF (v := .bool (decide (40 < (defs_n2 : Int)))) rfl hb66 rfl) _) rfl ?_
      refine WL_val gd0 ((o_move (v := .bool (decide (40 < (defs_n2 : Int)))) rfl) _) rfl ?_
      refine bsplit (decide (40 < (defs_n2 : Int))) (fun hb67 => ?_) (fun hb67 => ?_)
      · rw [if_pos (of_decide_eq_true hb67)] at h
        refine WL_skip (gdN (b := (decide (40 < (defs_n2 : Int)))) 19 rfl rfl hb67) rfl ?_
        refine WL_skip (gdN (b := (decide (40 < (defs_n2 : Int)))) 19 rfl rfl hb67) rfl ?_
        refine WL_val gd0 ((o_pickT (v := .bool true) rfl hb67 rfl) _) rfl ?_
        refine WL_nil ?_
        refine nrm ?_
        exact ⟨_, rfl, e0, e1, rfl, h⟩
      · rw [if_neg (of_decide_eq_false hb67)] at h
        refine WL_val (gdY (b := (decide (40 < (defs_n2 : Int)))) 19 rfl rfl hb67) ((o_move (v := .pointer s9) rfl) _) rfl ?_
        refine WL_val (gdY (b := (decide (40 < (defs_n2 : Int)))) 19 rfl rfl hb67) ((o_eqlPtrNil Try.underlying22 rfl rfl) _) rfl ?_
        refine WL_val gd0 ((o_pickF (v := .bool ((s9).isNone)) rfl hb67 rfl) _) rfl ?_
        refine WL_nil ?_
        refine nrm ?_
        exact ⟨_, rfl, e0, e1, rfl, h⟩
  · rintro ρ w15 ⟨t14, e22_13, e0_10, e1_11, e5_12, h⟩
    unfold F7_j1 at h
    refine WC_cond (t := t14) (by exact e22_13) (fun hb16 => ?_) (fun hb16 => ?_)
    · rw [if_pos hb16] at h
      refine WC_seq ?_
      refine WC_region ?_
      refine WL_val gd0 ((o_move (v := .pointer s9) (by exact e5_12)) _) rfl ?_
      refine WL_val gd0 ((o_neqPtrNil Try.underlying22 rfl rfl) _) rfl ?_
      refine WL_val gd0 ((o_move (v := .bool (!(s9).isNone)) rfl) _) rfl ?_
      refine bsplit (!(s9).isNone) (fun hb17 => ?_) (fun hb17 => ?_)
      · rw [if_pos hb17] at h
        refine WL_call (gdY (b := (!(s9).isNone)) 25 rfl rfl hb17) (o_call Try.call12 argNil _) rfl (h.mono ?_)
        rintro _ w18 ⟨x19, rfl, h⟩
        refine WL_val gd0 ((o_pickT (v := .bool x19) rfl hb17 rfl) _) rfl ?_
        refine WL_val gd0 ((o_assign (v := .bool x19) rfl) _) rfl ?_
        refine WL_nil ?_
        refine nrm ?_
        refine WC_ret ?_
        refine rtT ?_
        refine rtE ?_
        exact gv1 rfl rfl h
      · rw [if_neg (neT hb17)] at h
        refine WL_skip (gdN (b := (!(s9).isNone)) 25 rfl rfl hb17) rfl ?_
        refine WL_val gd0 ((o_pickF (v := .bool false) rfl hb17 rfl) _) rfl ?_
        refine WL_val gd0 ((o_assign (v := .bool false) rfl) _) rfl ?_
        refine WL_nil ?_
        refine nrm ?_
        refine WC_ret ?_
        refine rtT ?_
        refine rtE ?_
        exact gv1 rfl rfl h
    · rw [if_neg (neT hb16)] at h
      refine WC_skip ?_
      refine nrm ?_
      refine WC_seq ?_
      refine WC_region ?_
      refine WL_val gd0 ((o_move (v := .slice defs_a1 defs_n2 defs_c3) (by exact e0_10)) _) rfl ?_
      refine WL_call gd0 (o_call Try.call19 (argCons rfl argNil) _) rfl (h.mono ?_)
      rintro _ w20 ⟨r21, r22, rfl, h⟩
      refine WL_val gd0 ((o_move (v := .tuple #[.pointer r21, .int .i64 r22]) rfl) _) rfl ?_
      refine WL_val gd0 ((o_extract (vs := [.pointer r21, .int .i64 r22]) (r := .pointer r21) rfl rfl) _) rfl ?_
      refine WL_val gd0 ((o_extract (vs := [.pointer r21, .int .i64 r22]) (r := .int .i64 r22) rfl rfl) _) rfl ?_
      refine WL_val gd0 ((o_assign (v := .pointer r21) rfl) _) rfl ?_
      refine WL_val gd0 ((o_assign (v := .int .i64 r22) rfl) _) rfl ?_
      refine WL_nil ?_
      refine nrm ?_
      refine WC_seq ?_
      refine WC_region ?_
      have h := New.out h
      refine WL_val gd0 (o_alloc (z := .agg #[.slice none 0 0, .slice none 0 0, .int .i64 0]) (cs := [.slice none 0 0, .slice none 0 0, .int .i64 0]) Try.zeroValue50 rfl) rfl ?_
      generalize hp23 : fresh w20 = p23 at h ⊢
      generalize hw24 : push w20 50 [.slice none 0 0, .slice none 0 0, .int .i64 0] = w24 at h ⊢
      try dsimp only at h
      refine WL_nil ?_
      refine nrm ?_
      refine WC_seq ?_
      refine WC_seq ?_
      refine WC_region ?_
      refine WL_val gd0 ((o_assign (v := .int .i64 0) rfl) _) rfl ?_
      refine WL_nil ?_
      refine nrm ?_
      refine WC_block ?_
      obtain ⟨J31, ⟨n31, h0⟩, hr31⟩ := h
      refine WC_loop (fun n ρ w' => ∃ (i30 : Int), ρ 9 = .int .i64 i30 ∧ ρ 1 = .slice l_a4 l_n5 l_c6 ∧ ρ 5 = .pointer s9 ∧ ρ 6 = .pointer r21 ∧ ρ 8 = .pointer (some p23) ∧ J31 n i30 w') ⟨n31, _, rfl, e1_11, e5_12, rfl, rfl, h0⟩ ?_
      rintro n31 ρ w31 ⟨i30, e9_29, e1_25, e5_26, e6_27, e8_28, h⟩
      have h : F7_b2 l_n5 l_a4 s9 p23 r21 i30 w31 k (fun x0 w => ∃ m, m < n31 ∧ J31 m x0 w) := hr31 n31 i30 w31 h
      unfold F7_b2 at h
      refine WC_seq ?_
      refine WC_seq ?_
      refine WC_region ?_
      refine WL_val gd0 ((o_move (v := .int .i64 i30) (by exact e9_29)) _) rfl ?_
      refine WL_val gd0 ((o_move (v := .slice l_a4 l_n5 l_c6) (by exact e1_25)) _) rfl ?_
      refine WL_val gd0 ((o_len Try.underlying44 rfl) _) rfl ?_
      refine WL_val gd0 ((o_lss rfl rfl) _) rfl ?_
      refine WL_nil ?_
      refine nrm ?_
      refine WC_cond (t := (decide (i30 < (l_n5 : Int)))) rfl (fun hb33 => ?_) (fun hb33 => ?_)
      · rw [if_pos (of_decide_eq_true hb33)] at h
        refine WC_skip ?_
        refine nrm ?_
        refine WC_seq ?_
        refine WC_block ?_
        refine WC_seq ?_
        refine WC_draws [6, 10, 13] (.look 0 (.look 1 (.look 2 (.look 3 (.look 4 (.look 5 (.act 6 (.look 7 (.look 8 (.look 9 (.look 11 (.look 12 (.act 10 (.act 13 (.look 14 (.look 15 .nil)))))))))))))))) Try.mixed (by kernel_rfl) ?_
        refine WQ_val rfl gd0 (o_move (v := .pointer s9) (by exact e5_26)) rfl ?_
        refine WQ_val rfl gd0 (o_move (v := .slice l_a4 l_n5 l_c6) (by exact e1_25)) rfl ?_
        refine WQ_val rfl gd0 (o_move (v := .int .i64 i30) (by exact e9_29)) rfl ?_
        obtain ⟨p36, q37, h⟩ := h
        obtain ⟨l34, u35, h⟩ := h
        refine WQ_val rfl gd0 (o_indexAddr Try.underlying44 Try.sizeOf54 (by exact (congrArg (fun z => Value.slice z l_n5 l_c6) q37)) rfl l34 u35) rfl ?_
        obtain ⟨x38, x39, x40, x41, x42, x_a43, x_n44, x_c45, hc46, h⟩ := h
        refine WQ_look (fun w => Cells w (p36.add (i30.toNat * 6)) 0 [.int .u8 x38, .int .i64 x39, .int .i64 x40, .int .i64 x41, .bool x42, .slice x_a43 x_n44 x_c45]) rfl gd0 (fun w hc => (o_loadAgg (vs := [.int .u8 x38, .int .i64 x39, .int .i64 x40, .int .i64 x41, .bool x42, .slice x_a43 x_n44 x_c45]) Try.isAgg54 Try.sizeOf54 rfl hc)) hc46 rfl ?_
        refine WQ_val rfl gd0 (o_move (v := .pointer r21) (by exact e6_27)) rfl ?_
        refine WQ_call rfl gd0 (o_call Try.call17 (argCons rfl (argCons (by exact e8_28) (argCons rfl (argCons rfl argNil)))) _) rfl (h.mono ?_)
        rintro _ w47 ⟨x48, rfl, h⟩
        refine ⟨⟨trivial, depT (by kernel_rfl)⟩, ?_⟩
        refine WQ_val rfl gd0 (o_not rfl) rfl ?_
        refine WQ_val rfl gd0 (o_move (v := .bool (!x48)) rfl) rfl ?_
        refine bsplit (!x48) (fun hb49 => ?_) (fun hb49 => ?_)
        · rw [if_pos hb49] at h
          refine WQ_skip rfl (gdN (b := (!x48)) 47 rfl rfl hb49) rfl ?_
          refine WQ_skip rfl (gdN (b := (!x48)) 47 rfl rfl hb49) rfl ?_
          refine WQ_skip rfl (gdN (b := (!x48)) 47 rfl rfl hb49) rfl ?_
          refine WQ_passAct rfl (gdN (b := (!x48)) 47 rfl rfl hb49) rfl (by exact ⟨trivial, depT (by kernel_rfl)⟩) ?_
          refine WQ_passAct rfl (gdN (b := (!x48)) 47 rfl rfl hb49) rfl (by exact ⟨trivial, depT (by kernel_rfl)⟩) ?_
          refine WQ_skip rfl (gdN (b := (!x48)) 47 rfl rfl hb49) rfl ?_
          refine WQ_val rfl gd0 (o_pickT (v := .bool true) rfl hb49 rfl) rfl ?_
          refine WQ_nil ?_
          refine nrm ?_
          refine WC_cond (t := true) rfl (fun _ => ?_) (fun hx => by rw [(rfl : true = true)] at hx; cases hx)
          refine WC_seq ?_
          refine WC_region ?_
          refine WL_val gd0 ((o_assign (v := .bool false) rfl) _) rfl ?_
          refine WL_nil ?_
          refine nrm ?_
          refine WC_ret ?_
          refine rtB ?_
          refine rtT ?_
          refine rtT ?_
          refine rtB ?_
          refine rtT ?_
          refine rtE ?_
          exact gv1 rfl rfl h
        · rw [if_neg (neT hb49)] at h
          refine WQ_val rfl (gdY (b := (!x48)) 47 rfl rfl hb49) (o_move (v := .pointer s9) (by exact e5_26)) rfl ?_
          refine WQ_val rfl (gdY (b := (!x48)) 47 rfl rfl hb49) (o_fieldAddr0 Try.underlying50 rfl Try.sizeOf28 rfl rfl (by exact e8_28)) rfl ?_
          obtain ⟨x_a50, x_n51, x_c52, hc53, h⟩ := h
          refine WQ_look (fun w => w.cell? p23 = some (.slice x_a50 x_n51 x_c52)) rfl (gdY (b := (!x48)) 47 rfl rfl hb49) (fun w hc => (o_load Try.isAgg28 rfl hc)) hc53 rfl ?_
          refine WQ_call rfl (gdY (b := (!x48)) 47 rfl rfl hb49) (o_call Try.call11 (argCons rfl argNil) _) rfl (h.mono ?_)
          rintro _ w54 ⟨x_a55, x_n56, x_c57, rfl, hh58, h⟩
          refine ⟨⟨⟨trivial, depT (by kernel_rfl)⟩, fun _ => hh58⟩, ?_⟩
          refine WQ_call rfl (gdY (b := (!x48)) 47 rfl rfl hb49) (o_call Try.call18 (argCons rfl (argCons rfl argNil)) _) rfl (h.mono ?_)
          rintro _ w59 ⟨x60, rfl, h⟩
          refine ⟨⟨⟨trivial, depT (by kernel_rfl)⟩, depT (by kernel_rfl)⟩, ?_⟩
          refine WQ_val rfl (gdY (b := (!x48)) 47 rfl rfl hb49) (o_not rfl) rfl ?_
          refine WQ_val rfl gd0 (o_pickF (v := .bool (!x60)) rfl hb49 rfl) rfl ?_
          refine WQ_nil ?_
          refine nrm ?_
          refine WC_cond (t := (!x60)) rfl (fun hb61 => ?_) (fun hb61 => ?_)
          · rw [if_pos hb61] at h
            refine WC_seq ?_
            refine WC_region ?_
            refine WL_val gd0 ((o_assign (v := .bool false) rfl) _) rfl ?_
            refine WL_nil ?_
            refine nrm ?_
            refine WC_ret ?_
            refine rtB ?_
            refine rtT ?_
            refine rtT ?_
            refine rtB ?_
            refine rtT ?_
            refine rtE ?_
            exact gv1 rfl rfl h
          · rw [if_neg (neT hb61)] at h
            refine WC_skip ?_
            refine nrmB ?_
            refine nrm ?_
            refine WC_region ?_
            refine WL_val gd0 ((o_move (v := .int .i64 i30) (by exact e9_29)) _) rfl ?_
            refine WL_val gd0 ((o_add rfl rfl) _) rfl ?_
            refine WL_val gd0 ((o_assign (v := .int .i64 (IntKind.i64.wrap (i30 + 1))) rfl) _) rfl ?_
            refine WL_nil ?_
            refine nrm ?_
            obtain ⟨m32, hm32, h⟩ := h
            exact ⟨m32, hm32, _, rfl, e1_25, e5_26, e6_27, e8_28, h⟩
      · rw [if_neg (of_decide_eq_false hb33)] at h
        refine WC_exit ?_
        refine exT ?_
        refine exT ?_
        refine exB ?_
        refine nrm ?_
        refine WC_seq ?_
        refine WC_region ?_
        refine WL_call gd0 (o_call Try.call12 argNil _) rfl (h.mono ?_)
        rintro _ w62 ⟨t63, rfl, h⟩
        refine WL_val gd0 ((o_assign (v := .bool t63) rfl) _) rfl ?_
        refine WL_nil ?_
        refine nrm ?_
        refine WC_ret ?_
        refine rtE ?_
        exact gv1 rfl rfl h

/-- spacecraft hk.New -/
def F8 (w1 : World) (k : Value → World → Prop) : Prop :=
  New w1 47 [.bool true, .int .i64 0, .slice none 0 0] (fun p2 w3 => k (.pointer (some p2)) w3)
set_option maxRecDepth 100000 in
set_option maxHeartbeats 2000000 in
theorem w8 (w1 : World) (k : Value → World → Prop) (h : F8 w1 k) : Does Try.prog 8 #[] w1 k := by
  refine enter 3 Try.func8 rfl rfl rfl ?_
  intro ρ hρ
  unfold F8 at h
  refine WC_seq ?_
  refine WC_region ?_
  refine WL_val gd0 ((o_assign (v := .pointer none) rfl) _) rfl ?_
  refine WL_nil ?_
  refine nrm ?_
  refine WC_seq ?_
  refine WC_region ?_
  refine WL_val gd0 ((o_build (ps := [(0, .bool true)]) (v := .agg #[.bool true, .int .i64 0, .slice none 0 0]) (partCons rfl partNil) (fun w => by kernel_rfl)) _) rfl ?_
  have h := New.out h
  refine WL_val gd0 (o_box (v := .agg #[.bool true, .int .i64 0, .slice none 0 0]) (cs := [.bool true, .int .i64 0, .slice none 0 0]) rfl rfl) rfl ?_
  generalize hp2 : fresh w1 = p2 at h ⊢
  generalize hw3 : push w1 47 [.bool true, .int .i64 0, .slice none 0 0] = w3 at h ⊢
  try dsimp only at h
  refine WL_val gd0 ((o_assign (v := .pointer (some p2)) rfl) _) rfl ?_
  refine WL_nil ?_
  refine nrm ?_
  refine WC_ret ?_
  refine rtE ?_
  exact gv1 rfl rfl h

def F9_b1 (l_n5 : Nat) (l_a4 : Option Addr) (s1 : Option Addr) (id2 : Int) (l_c6 : Nat) (interval3 : Int) (t25 : Int) (w26 : World) (k : Value → World → Prop) (nx26 : Int → World → Prop) : Prop :=
  if t25 < (l_n5 : Int) then
  ∃ (p31 : Addr), l_a4 = some p31 ∧ (0 : Int) ≤ t25 ∧ t25 < (l_n5 : Int) ∧ ∃ (p33 : Int), w26.cell? (p31.add t25.toNat) = some (.int .i64 p33) ∧ Does Try.prog 21 #[.int .i64 p33] w26 (fun v w35 => ∃ (x36 : Bool), v = .bool x36 ∧ if (!x36) = true then
    k (.int .i64 1) w35
  else
    nx26 (IntKind.i64.wrap (t25 + 1)) w35)
else
  Does Try.prog 22 #[.pointer s1, .int .i64 id2] w26 (fun v w38 => ∃ (r39 : Int) (r40 : Bool), v = .tuple #[.int .i64 r39, .bool r40] ∧ if r40 = true then
    k (.int .i64 9) w38
  else
    ∃ (p42 : Addr), s1 = some p42 ∧ ∃ (x_a44 : Option Addr) (x_n45 x_c46 : Nat), w38.cell? (p42.add 2) = some (.slice x_a44 x_n45 x_c46) ∧ if 256 ≤ (x_n45 : Int) then
      k (.int .i64 7) w38
    else
      Does Try.prog 23 #[.slice l_a4 l_n5 l_c6] w38 (fun v w49 => ∃ (x_a50 : Option Addr) (x_n51 x_c52 : Nat), v = .slice x_a50 x_n51 x_c52 ∧ New w49 66 [.int .i64 0, .int .i64 0, .bool false, .slice none 0 0, .int .i64 0] (fun p53 w54 => PutAll w54 p53 [.int .i64 id2, .int .i64 interval3, .bool false, .slice x_a50 x_n51 x_c52, .int .i64 0] (fun w55 => ∃ (x_a57 : Option Addr) (x_n58 x_c59 : Nat), w55.drew.cell? (p42.add 2) = some (.slice x_a57 x_n58 x_c59) ∧ ∃ (x61 x62 : Int) (x63 : Bool) (x_a64 : Option Addr) (x_n65 x_c66 : Nat) (x67 : Int), Cells w55.drew p53 0 [.int .i64 x61, .int .i64 x62, .bool x63, .slice x_a64 x_n65 x_c66, .int .i64 x67] ∧ New w55.drew 66 [.int .i64 x61, .int .i64 x62, .bool x63, .slice x_a64 x_n65 x_c66, .int .i64 x67] (fun p69 w70 => w70.cell? (p42.add 2) = some (.slice x_a57 x_n58 x_c59) ∧ Does Try.prog 24 #[.slice x_a57 x_n58 x_c59, .int .i64 r39, .slice (some p69) 1 1] w70 (fun v w72 => ∃ (x_a73 : Option Addr) (x_n74 x_c75 : Nat), v = .slice x_a73 x_n74 x_c75 ∧ Put w72 (p42.add 2) (.slice x_a73 x_n74 x_c75) (fun w76 => k (.int .i64 0) w76)))))))
/-- (*spacecraft hk.Service).Define -/
def F9 (s1 : Option Addr) (id2 : Int) (interval3 : Int) (l_a4 : Option Addr) (l_n5 : Nat) (l_c6 : Nat) (w7 : World) (k : Value → World → Prop) : Prop :=
  Does Try.prog 20 #[.pointer s1] w7 (fun v w8 => ∃ (x9 : Bool), v = .bool x9 ∧ if (!x9) = true then
  k (.int .i64 2) w8
else
  Does Try.prog 21 #[.int .i64 id2] w8 (fun v w11 => ∃ (x12 : Bool), v = .bool x12 ∧ if (!x12) = true then
    k (.int .i64 1) w11
  else
    if interval3 < 1 then
      k (.int .i64 1) w11
    else
      if 1048576 < interval3 then
        k (.int .i64 1) w11
      else
        if (l_n5 : Int) < 1 then
          k (.int .i64 1) w11
        else
          if 256 < (l_n5 : Int) then
            k (.int .i64 1) w11
          else
            LoopP (fun (s : Int) w' nx' => F9_b1 l_n5 l_a4 s1 id2 l_c6 interval3 s w' k (fun x0 w => nx' x0 w)) 0 w11))
set_option maxRecDepth 100000 in
set_option maxHeartbeats 2000000 in
theorem w9 (s1 : Option Addr) (id2 : Int) (interval3 : Int) (l_a4 : Option Addr) (l_n5 : Nat) (l_c6 : Nat) (w7 : World) (k : Value → World → Prop) (h : F9 s1 id2 interval3 l_a4 l_n5 l_c6 w7 k) : Does Try.prog 9 #[.pointer s1, .int .i64 id2, .int .i64 interval3, .slice l_a4 l_n5 l_c6] w7 k := by
  refine enter 80 Try.func9 rfl rfl rfl ?_
  intro ρ hρ
  have e0 := hρ 0 _ rfl
  have e1 := hρ 1 _ rfl
  have e2 := hρ 2 _ rfl
  have e3 := hρ 3 _ rfl
  unfold F9 at h
  refine WC_seq ?_
  refine WC_region ?_
  refine WL_val gd0 ((o_assign (v := .int .i64 0) rfl) _) rfl ?_
  refine WL_nil ?_
  refine nrm ?_
  refine WC_seq ?_
  refine WC_seq ?_
  refine WC_region ?_
  refine WL_val gd0 ((o_move (v := .pointer s1) (by exact e0)) _) rfl ?_
  refine WL_call gd0 (o_call Try.call20 (argCons rfl argNil) _) rfl (h.mono ?_)
  rintro _ w8 ⟨x9, rfl, h⟩
  refine WL_val gd0 ((o_not rfl) _) rfl ?_
  refine WL_nil ?_
  refine nrm ?_
  refine WC_cond (t := (!x9)) rfl (fun hb10 => ?_) (fun hb10 => ?_)
  · rw [if_pos hb10] at h
    refine WC_seq ?_
    refine WC_region ?_
    refine WL_val gd0 ((o_assign (v := .int .i64 2) rfl) _) rfl ?_
    refine WL_nil ?_
    refine nrm ?_
    refine WC_ret ?_
    refine rtT ?_
    refine rtE ?_
    exact gv1 rfl rfl h
  · rw [if_neg (neT hb10)] at h
    refine WC_skip ?_
    refine nrm ?_
    refine WC_seq ?_
    refine WC_seq ?_
    refine WC_region ?_
    refine WL_val gd0 ((o_move (v := .int .i64 id2) (by exact e1)) _) rfl ?_
    refine WL_call gd0 (o_call Try.call21 (argCons rfl argNil) _) rfl (h.mono ?_)
    rintro _ w11 ⟨x12, rfl, h⟩
    refine WL_val gd0 ((o_not rfl) _) rfl ?_
    refine WL_val gd0 ((o_move (v := .bool (!x12)) rfl) _) rfl ?_
    refine bsplit (!x12) (fun hb13 => ?_) (fun hb13 => ?_)
    · rw [if_pos hb13] at h
      refine WL_skip (gdN (b := (!x12)) 20 rfl rfl hb13) rfl ?_
      refine WL_skip (gdN (b := (!x12)) 20 rfl rfl hb13) rfl ?_
      refine WL_val gd0 ((o_pickT (v := .bool true) rfl hb13 rfl) _) rfl ?_
      refine WL_val gd0 ((o_move (v := .bool true) rfl) _) rfl ?_
      refine WL_skip (gdN (b := true) 24 rfl rfl rfl) rfl ?_
      refine WL_skip (gdN (b := true) 24 rfl rfl rfl) rfl ?_
      refine WL_val gd0 ((o_pickT (v := .bool true) rfl rfl rfl) _) rfl ?_
      refine WL_val gd0 ((o_move (v := .bool true) rfl) _) rfl ?_
      refine WL_skip (gdN (b := true) 28 rfl rfl rfl) rfl ?_
      refine WL_skip (gdN (b := true) 28 rfl rfl rfl) rfl ?_
      refine WL_skip (gdN (b := true) 28 rfl rfl rfl) rfl ?_
      refine WL_val gd0 ((o_pickT (v := .bool true) rfl rfl rfl) _) rfl ?_
      refine WL_val gd0 ((o_move (v := .bool true) rfl) _) rfl ?_
      refine WL_skip (gdN (b := true) 33 rfl rfl rfl) rfl ?_
      refine WL_skip (gdN (b := true) 33 rfl rfl rfl) rfl ?_
      refine WL_skip (gdN (b := true) 33 rfl rfl rfl) rfl ?_
      refine WL_val gd0 ((o_pickT (v := .bool true) rfl rfl rfl) _) rfl ?_
      refine WL_nil ?_
      refine nrm ?_
      refine WC_cond (t := true) rfl (fun _ => ?_) (fun hx => by rw [(rfl : true = true)] at hx; cases hx)
      refine WC_seq ?_
      refine WC_region ?_
      refine WL_val gd0 ((o_assign (v := .int .i64 1) rfl) _) rfl ?_
      refine WL_nil ?_
      refine nrm ?_
      refine WC_ret ?_
      refine rtT ?_
      refine rtE ?_
      exact gv1 rfl rfl h
    · rw [if_neg (neT hb13)] at h
      refine WL_val (gdY (b := (!x12)) 20 rfl rfl hb13) ((o_move (v := .int .i64 interval3) (by exact e2)) _) rfl ?_
      refine WL_val (gdY (b := (!x12)) 20 rfl rfl hb13) ((o_lss rfl rfl) _) rfl ?_
      refine WL_val gd0 ((o_pickF (v := .bool (decide (interval3 < 1))) rfl hb13 rfl) _) rfl ?_
      refine WL_val gd0 ((o_move (v := .bool (decide (interval3 < 1))) rfl) _) rfl ?_
      refine bsplit (decide (interval3 < 1)) (fun hb14 => ?_) (fun hb14 => ?_)
      · rw [if_pos (of_decide_eq_true hb14)] at h
        refine WL_skip (gdN (b := (decide (interval3 < 1))) 24 rfl rfl hb14) rfl ?_
        refine WL_skip (gdN (b := (decide (interval3 < 1))) 24 rfl rfl hb14) rfl ?_
        refine WL_val gd0 ((o_pickT (v := .bool true) rfl hb14 rfl) _) rfl ?_
        refine WL_val gd0 ((o_move (v := .bool true) rfl) _) rfl ?_
        refine WL_skip (gdN (b := true) 28 rfl rfl rfl) rfl ?_
        refine WL_skip (gdN (b := true) 28 rfl rfl rfl) rfl ?_
        refine WL_skip (gdN (b := true) 28 rfl rfl rfl) rfl ?_
        refine WL_val gd0 ((o_pickT (v := .bool true) rfl rfl rfl) _) rfl ?_
        refine WL_val gd0 ((o_move (v := .bool true) rfl) _) rfl ?_
        refine WL_skip (gdN (b := true) 33 rfl rfl rfl) rfl ?_
        refine WL_skip (gdN (b := true) 33 rfl rfl rfl) rfl ?_
        refine WL_skip (gdN (b := true) 33 rfl rfl rfl) rfl ?_
        refine WL_val gd0 ((o_pickT (v := .bool true) rfl rfl rfl) _) rfl ?_
        refine WL_nil ?_
        refine nrm ?_
        refine WC_cond (t := true) rfl (fun _ => ?_) (fun hx => by rw [(rfl : true = true)] at hx; cases hx)
        refine WC_seq ?_
        refine WC_region ?_
        refine WL_val gd0 ((o_assign (v := .int .i64 1) rfl) _) rfl ?_
        refine WL_nil ?_
        refine nrm ?_
        refine WC_ret ?_
        refine rtT ?_
        refine rtE ?_
        exact gv1 rfl rfl h
      · rw [if_neg (of_decide_eq_false hb14)] at h
        refine WL_val (gdY (b := (decide (interval3 < 1))) 24 rfl rfl hb14) ((o_move (v := .int .i64 interval3) (by exact e2)) _) rfl ?_
        refine WL_val (gdY (b := (decide (interval3 < 1))) 24 rfl rfl hb14) ((o_gtr rfl rfl) _) rfl ?_
        refine WL_val gd0 ((o_pickF (v := .bool (decide (1048576 < interval3))) rfl hb14 rfl) _) rfl ?_
        refine WL_val gd0 ((o_move (v := .bool (decide (1048576 < interval3))) rfl) _) rfl ?_
        refine bsplit (decide (1048576 < interval3)) (fun hb15 => ?_) (fun hb15 => ?_)
        · rw [if_pos (of_decide_eq_true hb15)] at h
          refine WL_skip (gdN (b := (decide (1048576 < interval3))) 28 rfl rfl hb15) rfl ?_
          refine WL_skip (gdN (b := (decide (1048576 < interval3))) 28 rfl rfl hb15) rfl ?_
          refine WL_skip (gdN (b := (decide (1048576 < interval3))) 28 rfl rfl hb15) rfl ?_
          refine WL_val gd0 ((o_pickT (v := .bool true) rfl hb15 rfl) _) rfl ?_
          refine WL_val gd0 ((o_move (v := .bool true) rfl) _) rfl ?_
          refine WL_skip (gdN (b := true) 33 rfl rfl rfl) rfl ?_
          refine WL_skip (gdN (b := true) 33 rfl rfl rfl) rfl ?_
          refine WL_skip (gdN (b := true) 33 rfl rfl rfl) rfl ?_
          refine WL_val gd0 ((o_pickT (v := .bool true) rfl rfl rfl) _) rfl ?_
          refine WL_nil ?_
          refine nrm ?_
          refine WC_cond (t := true) rfl (fun _ => ?_) (fun hx => by rw [(rfl : true = true)] at hx; cases hx)
          refine WC_seq ?_
          refine WC_region ?_
          refine WL_val gd0 ((o_assign (v := .int .i64 1) rfl) _) rfl ?_
          refine WL_nil ?_
          refine nrm ?_
          refine WC_ret ?_
          refine rtT ?_
          refine rtE ?_
          exact gv1 rfl rfl h
        · rw [if_neg (of_decide_eq_false hb15)] at h
          refine WL_val (gdY (b := (decide (1048576 < interval3))) 28 rfl rfl hb15) ((o_move (v := .slice l_a4 l_n5 l_c6) (by exact e3)) _) rfl ?_
          refine WL_val (gdY (b := (decide (1048576 < interval3))) 28 rfl rfl hb15) ((o_len Try.underlying26 rfl) _) rfl ?_
          refine WL_val (gdY (b := (decide (1048576 < interval3))) 28 rfl rfl hb15) ((o_lss rfl rfl) _) rfl ?_
          refine WL_val gd0 ((o_pickF (v := .bool (decide ((l_n5 : Int) < 1))) rfl hb15 rfl) _) rfl ?_
          refine WL_val gd0 ((o_move (v := .bool (decide ((l_n5 : Int) < 1))) rfl) _) rfl ?_
          refine bsplit (decide ((l_n5 : Int) < 1)) (fun hb16 => ?_) (fun hb16 => ?_)
          · rw [if_pos (of_decide_eq_true hb16)] at h
            refine WL_skip (gdN (b := (decide ((l_n5 : Int) < 1))) 33 rfl rfl hb16) rfl ?_
            refine WL_skip (gdN (b := (decide ((l_n5 : Int) < 1))) 33 rfl rfl hb16) rfl ?_
            refine WL_skip (gdN (b := (decide ((l_n5 : Int) < 1))) 33 rfl rfl hb16) rfl ?_
            refine WL_val gd0 ((o_pickT (v := .bool true) rfl hb16 rfl) _) rfl ?_
            refine WL_nil ?_
            refine nrm ?_
            refine WC_cond (t := true) rfl (fun _ => ?_) (fun hx => by rw [(rfl : true = true)] at hx; cases hx)
            refine WC_seq ?_
            refine WC_region ?_
            refine WL_val gd0 ((o_assign (v := .int .i64 1) rfl) _) rfl ?_
            refine WL_nil ?_
            refine nrm ?_
            refine WC_ret ?_
            refine rtT ?_
            refine rtE ?_
            exact gv1 rfl rfl h
          · rw [if_neg (of_decide_eq_false hb16)] at h
            refine WL_val (gdY (b := (decide ((l_n5 : Int) < 1))) 33 rfl rfl hb16) ((o_move (v := .slice l_a4 l_n5 l_c6) (by exact e3)) _) rfl ?_
            refine WL_val (gdY (b := (decide ((l_n5 : Int) < 1))) 33 rfl rfl hb16) ((o_len Try.underlying26 rfl) _) rfl ?_
            refine WL_val (gdY (b := (decide ((l_n5 : Int) < 1))) 33 rfl rfl hb16) ((o_gtr rfl rfl) _) rfl ?_
            refine WL_val gd0 ((o_pickF (v := .bool (decide (256 < (l_n5 : Int)))) rfl hb16 rfl) _) rfl ?_
            refine WL_nil ?_
            refine nrm ?_
            refine WC_cond (t := (decide (256 < (l_n5 : Int)))) rfl (fun hb17 => ?_) (fun hb17 => ?_)
            · rw [if_pos (of_decide_eq_true hb17)] at h
              refine WC_seq ?_
              refine WC_region ?_
              refine WL_val gd0 ((o_assign (v := .int .i64 1) rfl) _) rfl ?_
              refine WL_nil ?_
              refine nrm ?_
              refine WC_ret ?_
              refine rtT ?_
              refine rtE ?_
              exact gv1 rfl rfl h
            · rw [if_neg (of_decide_eq_false hb17)] at h
              refine WC_skip ?_
              refine nrm ?_
              refine WC_seq ?_
              refine WC_seq ?_
              refine WC_region ?_
              refine WL_val gd0 ((o_move (v := .slice l_a4 l_n5 l_c6) (by exact e3)) _) rfl ?_
              refine WL_val gd0 ((o_len Try.underlying26 rfl) _) rfl ?_
              refine WL_val gd0 ((o_move (v := .int .i64 0) rfl) _) rfl ?_
              refine WL_nil ?_
              refine nrm ?_
              refine WC_block ?_
              obtain ⟨J26, ⟨n26, h0⟩, hr26⟩ := h
              refine WC_loop (fun n ρ w' => ∃ (t25 : Int), ρ 40 = .int .i64 t25 ∧ ρ 0 = .pointer s1 ∧ ρ 1 = .int .i64 id2 ∧ ρ 2 = .int .i64 interval3 ∧ ρ 3 = .slice l_a4 l_n5 l_c6 ∧ ρ 38 = .slice l_a4 l_n5 l_c6 ∧ ρ 39 = .int .i64 (l_n5 : Int) ∧ J26 n t25 w') ⟨n26, _, rfl, e0, e1, e2, e3, rfl, rfl, h0⟩ ?_
              rintro n26 ρ w26 ⟨t25, e40_24, e0_18, e1_19, e2_20, e3_21, e38_22, e39_23, h⟩
              have h : F9_b1 l_n5 l_a4 s1 id2 l_c6 interval3 t25 w26 k (fun x0 w => ∃ m, m < n26 ∧ J26 m x0 w) := hr26 n26 t25 w26 h
              unfold F9_b1 at h
              refine WC_seq ?_
              refine WC_region ?_
              refine WL_val gd0 ((o_lss (by exact e40_24) (by exact e39_23)) _) rfl ?_
              refine WL_nil ?_
              refine nrm ?_
              refine WC_seq ?_
              refine WC_cond (t := (decide (t25 < (l_n5 : Int)))) rfl (fun hb28 => ?_) (fun hb28 => ?_)
              · rw [if_pos (of_decide_eq_true hb28)] at h
                refine WC_skip ?_
                refine nrm ?_
                refine WC_seq ?_
                refine WC_block ?_
                refine WC_seq ?_
                refine WC_region ?_
                obtain ⟨p31, q32, h⟩ := h
                obtain ⟨l29, u30, h⟩ := h
                refine WL_val gd0 ((o_indexAddr1 Try.underlying26 Try.sizeOf3 (by exact (Eq.trans e38_22 (congrArg (fun z => Value.slice z l_n5 l_c6) q32))) (by exact e40_24) l29 u30) _) rfl ?_
                obtain ⟨p33, hc34, h⟩ := h
                refine WL_val gd0 (o_load Try.isAgg3 rfl hc34) rfl ?_
                refine WL_val gd0 ((o_assign (v := .int .i64 p33) rfl) _) rfl ?_
                refine WL_nil ?_
                refine nrm ?_
                refine WC_seq ?_
                refine WC_region ?_
                refine WL_val gd0 ((o_move (v := .int .i64 p33) rfl) _) rfl ?_
                refine WL_call gd0 (o_call Try.call21 (argCons rfl argNil) _) rfl (h.mono ?_)
                rintro _ w35 ⟨x36, rfl, h⟩
                refine WL_val gd0 ((o_not rfl) _) rfl ?_
                refine WL_nil ?_
                refine nrm ?_
                refine WC_cond (t := (!x36)) rfl (fun hb37 => ?_) (fun hb37 => ?_)
                · rw [if_pos hb37] at h
                  refine WC_seq ?_
                  refine WC_region ?_
                  refine WL_val gd0 ((o_assign (v := .int .i64 1) rfl) _) rfl ?_
                  refine WL_nil ?_
                  refine nrm ?_
                  refine WC_ret ?_
                  refine rtB ?_
                  refine rtT ?_
                  refine rtT ?_
                  refine rtB ?_
                  refine rtT ?_
                  refine rtE ?_
                  exact gv1 rfl rfl h
                · rw [if_neg (neT hb37)] at h
                  refine WC_skip ?_
                  refine nrmB ?_
                  refine nrm ?_
                  refine WC_region ?_
                  refine WL_val gd0 ((o_add (by exact e40_24) rfl) _) rfl ?_
                  refine WL_val gd0 ((o_move (v := .int .i64 (IntKind.i64.wrap (t25 + 1))) rfl) _) rfl ?_
                  refine WL_nil ?_
                  refine nrm ?_
                  obtain ⟨m27, hm27, h⟩ := h
                  exact ⟨m27, hm27, _, rfl, e0_18, e1_19, e2_20, e3_21, e38_22, e39_23, h⟩
              · rw [if_neg (of_decide_eq_false hb28)] at h
                refine WC_exit ?_
                refine exT ?_
                refine exT ?_
                refine exB ?_
                refine nrm ?_
                refine WC_seq ?_
                refine WC_region ?_
                refine WL_val gd0 ((o_move (v := .pointer s1) (by exact e0_18)) _) rfl ?_
                refine WL_val gd0 ((o_move (v := .int .i64 id2) (by exact e1_19)) _) rfl ?_
                refine WL_call gd0 (o_call Try.call22 (argCons rfl (argCons rfl argNil)) _) rfl (h.mono ?_)
                rintro _ w38 ⟨r39, r40, rfl, h⟩
                refine WL_val gd0 ((o_move (v := .tuple #[.int .i64 r39, .bool r40]) rfl) _) rfl ?_
                refine WL_val gd0 ((o_extract (vs := [.int .i64 r39, .bool r40]) (r := .int .i64 r39) rfl rfl) _) rfl ?_
                refine WL_val gd0 ((o_extract (vs := [.int .i64 r39, .bool r40]) (r := .bool r40) rfl rfl) _) rfl ?_
                refine WL_val gd0 ((o_assign (v := .int .i64 r39) rfl) _) rfl ?_
                refine WL_val gd0 ((o_assign (v := .bool r40) rfl) _) rfl ?_
                refine WL_nil ?_
                refine nrm ?_
                refine WC_seq ?_
                refine WC_block ?_
                refine WC_seq ?_
                refine WC_region ?_
                refine WL_val gd0 ((o_move (v := .bool r40) rfl) _) rfl ?_
                refine WL_val gd0 ((o_assign (v := .bool r40) rfl) _) rfl ?_
                refine WL_nil ?_
                refine nrm ?_
                refine WC_cond (t := r40) rfl (fun hb41 => ?_) (fun hb41 => ?_)
                · rw [if_pos hb41] at h
                  refine WC_seq ?_
                  refine WC_region ?_
                  refine WL_val gd0 ((o_assign (v := .int .i64 9) rfl) _) rfl ?_
                  refine WL_nil ?_
                  refine nrm ?_
                  refine WC_ret ?_
                  refine rtB ?_
                  refine rtT ?_
                  refine rtE ?_
                  exact gv1 rfl rfl h
                · rw [if_neg (neT hb41)] at h
                  refine WC_seq ?_
                  refine WC_region ?_
                  refine WL_val gd0 ((o_move (v := .pointer s1) (by exact e0_18)) _) rfl ?_
                  obtain ⟨p42, q43, h⟩ := h
                  refine WL_val gd0 ((o_nilCheck (by exact (congrArg Value.pointer q43))) _) rfl ?_
                  refine WL_val gd0 ((o_fieldAddr 2 Try.underlying47 rfl Try.sizeOf45 rfl rfl rfl) _) rfl ?_
                  obtain ⟨x_a44, x_n45, x_c46, hc47, h⟩ := h
                  refine WL_val gd0 (o_load Try.isAgg45 rfl hc47) rfl ?_
                  refine WL_val gd0 ((o_len Try.underlying45 rfl) _) rfl ?_
                  refine WL_val gd0 ((o_geq rfl rfl) _) rfl ?_
                  refine WL_val gd0 ((o_assign (v := .bool (decide (256 ≤ (x_n45 : Int)))) rfl) _) rfl ?_
                  refine WL_nil ?_
                  refine nrm ?_
                  refine WC_cond (t := (decide (256 ≤ (x_n45 : Int)))) rfl (fun hb48 => ?_) (fun hb48 => ?_)
                  · rw [if_pos (of_decide_eq_true hb48)] at h
                    refine WC_seq ?_
                    refine WC_region ?_
                    refine WL_val gd0 ((o_assign (v := .int .i64 7) rfl) _) rfl ?_
                    refine WL_nil ?_
                    refine nrm ?_
                    refine WC_ret ?_
                    refine rtB ?_
                    refine rtT ?_
                    refine rtE ?_
                    exact gv1 rfl rfl h
                  · rw [if_neg (of_decide_eq_false hb48)] at h
                    refine WC_skip ?_
                    refine nrmB ?_
                    refine nrm ?_
                    refine WC_seq ?_
                    refine WC_region ?_
                    refine WL_val gd0 ((o_move (v := .int .i64 id2) (by exact e1_19)) _) rfl ?_
                    refine WL_val gd0 ((o_move (v := .int .i64 interval3) (by exact e2_20)) _) rfl ?_
                    refine WL_val gd0 ((o_move (v := .slice l_a4 l_n5 l_c6) (by exact e3_21)) _) rfl ?_
                    refine WL_call gd0 (o_call Try.call23 (argCons rfl argNil) _) rfl (h.mono ?_)
                    rintro _ w49 ⟨x_a50, x_n51, x_c52, rfl, h⟩
                    refine WL_val gd0 ((o_build (ps := [(0, .int .i64 id2), (1, .int .i64 interval3), (3, .slice x_a50 x_n51 x_c52)]) (v := .agg #[.int .i64 id2, .int .i64 interval3, .bool false, .slice x_a50 x_n51 x_c52]) (partCons rfl (partCons rfl (partCons rfl partNil))) (fun w => by kernel_rfl)) _) rfl ?_
                    refine WL_val gd0 ((o_build (ps := [(0, .agg #[.int .i64 id2, .int .i64 interval3, .bool false, .slice x_a50 x_n51 x_c52])]) (v := .agg #[.int .i64 id2, .int .i64 interval3, .bool false, .slice x_a50 x_n51 x_c52, .int .i64 0]) (partCons rfl partNil) (fun w => by kernel_rfl)) _) rfl ?_
                    have h := New.out h
                    refine WL_val gd0 (o_alloc (z := .agg #[.int .i64 0, .int .i64 0, .bool false, .slice none 0 0, .int .i64 0]) (cs := [.int .i64 0, .int .i64 0, .bool false, .slice none 0 0, .int .i64 0]) Try.zeroValue66 rfl) rfl ?_
                    generalize hp53 : fresh w49 = p53 at h ⊢
                    generalize hw54 : push w49 66 [.int .i64 0, .int .i64 0, .bool false, .slice none 0 0, .int .i64 0] = w54 at h ⊢
                    try dsimp only at h
                    obtain ⟨c56, h⟩ := h
                    refine WL_act gd0 (o_storeAgg (vs := [.int .i64 id2, .int .i64 interval3, .bool false, .slice x_a50 x_n51 x_c52, .int .i64 0]) Try.sizeOf66 rfl rfl rfl c56) ?_
                    generalize hw55 : setAll w54 p53 0 [.int .i64 id2, .int .i64 interval3, .bool false, .slice x_a50 x_n51 x_c52, .int .i64 0] = w55 at h ⊢
                    try dsimp only at h
                    refine WL_nil ?_
                    refine nrm ?_
                    refine WC_seq ?_
                    refine WC_draws [7, 8, 11] (.look 0 (.look 1 (.look 2 (.look 3 (.look 4 (.look 5 (.look 6 (.act 7 (.act 8 (.look 9 (.look 10 (.act 11 .nil)))))))))))) Try.mixed (by kernel_rfl) ?_
                    refine WQ_val rfl gd0 (o_move (v := .pointer s1) (by exact e0_18)) rfl ?_
                    refine WQ_val rfl gd0 (o_move (v := .pointer s1) (by exact e0_18)) rfl ?_
                    refine WQ_val rfl gd0 (o_nilCheck (by exact (congrArg Value.pointer q43))) rfl ?_
                    refine WQ_val rfl gd0 (o_fieldAddr 2 Try.underlying47 rfl Try.sizeOf45 rfl rfl rfl) rfl ?_
                    obtain ⟨x_a57, x_n58, x_c59, hc60, h⟩ := h
                    refine WQ_look (fun w => w.cell? (p42.add 2) = some (.slice x_a57 x_n58 x_c59)) rfl gd0 (fun w hc => (o_load Try.isAgg45 rfl hc)) hc60 rfl ?_
                    refine WQ_val rfl gd0 (o_move (v := .int .i64 r39) rfl) rfl ?_
                    obtain ⟨x61, x62, x63, x_a64, x_n65, x_c66, x67, hc68, h⟩ := h
                    refine WQ_look (fun w => Cells w p53 0 [.int .i64 x61, .int .i64 x62, .bool x63, .slice x_a64 x_n65 x_c66, .int .i64 x67]) rfl gd0 (fun w hc => (o_loadAgg (vs := [.int .i64 x61, .int .i64 x62, .bool x63, .slice x_a64 x_n65 x_c66, .int .i64 x67]) Try.isAgg66 Try.sizeOf66 rfl hc)) hc68 rfl ?_
                    have h := New.out h
                    obtain ⟨hh71, h⟩ := h
                    refine WQ_act rfl gd0 (o_buildSlice (e := 66) (ps := [(0, .agg #[.int .i64 x61, .int .i64 x62, .bool x63, .slice x_a64 x_n65 x_c66, .int .i64 x67])]) (cs := [.int .i64 x61, .int .i64 x62, .bool x63, .slice x_a64 x_n65 x_c66, .int .i64 x67]) (partCons rfl partNil) (fun w => by kernel_rfl)) rfl (by exact ⟨⟨trivial, fun _ => hh71⟩, depT (by kernel_rfl)⟩) ?_
                    generalize hp69 : fresh w55.drew = p69 at h ⊢
                    generalize hw70 : push w55.drew 66 [.int .i64 x61, .int .i64 x62, .bool x63, .slice x_a64 x_n65 x_c66, .int .i64 x67] = w70 at h ⊢
                    try dsimp only at h
                    refine WQ_call rfl gd0 (o_call Try.call24 (argCons rfl (argCons rfl (argCons rfl argNil))) _) rfl (h.mono ?_)
                    rintro _ w72 ⟨x_a73, x_n74, x_c75, rfl, h⟩
                    refine ⟨⟨⟨trivial, depT (by kernel_rfl)⟩, depT (by kernel_rfl)⟩, ?_⟩
                    refine WQ_val rfl gd0 (o_nilCheck (by exact (congrArg Value.pointer q43))) rfl ?_
                    refine WQ_val rfl gd0 (o_fieldAddr 2 Try.underlying47 rfl Try.sizeOf45 rfl rfl rfl) rfl ?_
                    obtain ⟨c77, h⟩ := h
                    refine WQ_do rfl gd0 (o_store (v := .slice x_a73 x_n74 x_c75) Try.sizeOf45 rfl rfl rfl c77) (by exact ⟨⟨trivial, depT (by kernel_rfl)⟩, depT (by kernel_rfl)⟩) ?_
                    generalize hw76 : World.setCell w72 (p42.add 2) (.slice x_a73 x_n74 x_c75) = w76 at h ⊢
                    try dsimp only at h
                    refine WQ_nil ?_
                    refine nrm ?_
                    refine WC_seq ?_
                    refine WC_region ?_
                    refine WL_val gd0 ((o_assign (v := .int .i64 0) rfl) _) rfl ?_
                    refine WL_nil ?_
                    refine nrm ?_
                    refine WC_ret ?_
                    refine rtE ?_
                    exact gv1 rfl rfl h

/-- (*spacecraft hk.Service).Delete -/
def F10 (s1 : Option Addr) (id2 : Int) (w3 : World) (k : Value → World → Prop) : Prop :=
  Does Try.prog 20 #[.pointer s1] w3 (fun v w4 => ∃ (x5 : Bool), v = .bool x5 ∧ if (!x5) = true then
  k (.int .i64 2) w4
else
  Does Try.prog 22 #[.pointer s1, .int .i64 id2] w4 (fun v w7 => ∃ (r8 : Int) (r9 : Bool), v = .tuple #[.int .i64 r8, .bool r9] ∧ if (!r9) = true then
    k (.int .i64 8) w7
  else
    ∃ (p11 : Addr), s1 = some p11 ∧ ∃ (x_a13 : Option Addr) (x_n14 x_c15 : Nat), w7.cell? (p11.add 2) = some (.slice x_a13 x_n14 x_c15) ∧ ∃ (p19 : Addr), x_a13 = some p19 ∧ (0 : Int) ≤ r8 ∧ r8 < (x_n14 : Int) ∧ ∃ (t21 : Bool), w7.cell? ((p19.add (r8.toNat * 5)).add 2) = some (.bool t21) ∧ if t21 = true then
      k (.int .i64 12) w7
    else
      ∃ (x_a24 : Option Addr) (x_n25 x_c26 : Nat), w7.cell? (p11.add 2) = some (.slice x_a24 x_n25 x_c26) ∧ Does Try.prog 25 #[.slice x_a24 x_n25 x_c26, .int .i64 r8, .int .i64 (IntKind.i64.wrap (r8 + 1))] w7 (fun v w28 => ∃ (x_a29 : Option Addr) (x_n30 x_c31 : Nat), v = .slice x_a29 x_n30 x_c31 ∧ Put w28 (p11.add 2) (.slice x_a29 x_n30 x_c31) (fun w32 => k (.int .i64 0) w32))))
set_option maxRecDepth 100000 in
set_option maxHeartbeats 2000000 in
theorem w10 (s1 : Option Addr) (id2 : Int) (w3 : World) (k : Value → World → Prop) (h : F10 s1 id2 w3 k) : Does Try.prog 10 #[.pointer s1, .int .i64 id2] w3 k := by
  refine enter 40 Try.func10 rfl rfl rfl ?_
  intro ρ hρ
  have e0 := hρ 0 _ rfl
  have e1 := hρ 1 _ rfl
  unfold F10 at h
  refine WC_seq ?_
  refine WC_region ?_
  refine WL_val gd0 ((o_assign (v := .int .i64 0) rfl) _) rfl ?_
  refine WL_nil ?_
  refine nrm ?_
  refine WC_seq ?_
  refine WC_seq ?_
  refine WC_region ?_
  refine WL_val gd0 ((o_move (v := .pointer s1) (by exact e0)) _) rfl ?_
  refine WL_call gd0 (o_call Try.call20 (argCons rfl argNil) _) rfl (h.mono ?_)
  rintro _ w4 ⟨x5, rfl, h⟩
  refine WL_val gd0 ((o_not rfl) _) rfl ?_
  refine WL_nil ?_
  refine nrm ?_
  refine WC_cond (t := (!x5)) rfl (fun hb6 => ?_) (fun hb6 => ?_)
  · rw [if_pos hb6] at h
    refine WC_seq ?_
    refine WC_region ?_
    refine WL_val gd0 ((o_assign (v := .int .i64 2) rfl) _) rfl ?_
    refine WL_nil ?_
    refine nrm ?_
    refine WC_ret ?_
    refine rtT ?_
    refine rtE ?_
    exact gv1 rfl rfl h
  · rw [if_neg (neT hb6)] at h
    refine WC_skip ?_
    refine nrm ?_
    refine WC_seq ?_
    refine WC_region ?_
    refine WL_val gd0 ((o_move (v := .pointer s1) (by exact e0)) _) rfl ?_
    refine WL_val gd0 ((o_move (v := .int .i64 id2) (by exact e1)) _) rfl ?_
    refine WL_call gd0 (o_call Try.call22 (argCons rfl (argCons rfl argNil)) _) rfl (h.mono ?_)
    rintro _ w7 ⟨r8, r9, rfl, h⟩
    refine WL_val gd0 ((o_move (v := .tuple #[.int .i64 r8, .bool r9]) rfl) _) rfl ?_
    refine WL_val gd0 ((o_extract (vs := [.int .i64 r8, .bool r9]) (r := .int .i64 r8) rfl rfl) _) rfl ?_
    refine WL_val gd0 ((o_extract (vs := [.int .i64 r8, .bool r9]) (r := .bool r9) rfl rfl) _) rfl ?_
    refine WL_val gd0 ((o_assign (v := .int .i64 r8) rfl) _) rfl ?_
    refine WL_val gd0 ((o_assign (v := .bool r9) rfl) _) rfl ?_
    refine WL_nil ?_
    refine nrm ?_
    refine WC_seq ?_
    refine WC_block ?_
    refine WC_seq ?_
    refine WC_region ?_
    refine WL_val gd0 ((o_move (v := .bool r9) rfl) _) rfl ?_
    refine WL_val gd0 ((o_not rfl) _) rfl ?_
    refine WL_val gd0 ((o_assign (v := .bool (!r9)) rfl) _) rfl ?_
    refine WL_nil ?_
    refine nrm ?_
    refine WC_cond (t := (!r9)) rfl (fun hb10 => ?_) (fun hb10 => ?_)
    · rw [if_pos hb10] at h
      refine WC_seq ?_
      refine WC_region ?_
      refine WL_val gd0 ((o_assign (v := .int .i64 8) rfl) _) rfl ?_
      refine WL_nil ?_
      refine nrm ?_
      refine WC_ret ?_
      refine rtB ?_
      refine rtT ?_
      refine rtE ?_
      exact gv1 rfl rfl h
    · rw [if_neg (neT hb10)] at h
      refine WC_seq ?_
      refine WC_region ?_
      refine WL_val gd0 ((o_move (v := .pointer s1) (by exact e0)) _) rfl ?_
      obtain ⟨p11, q12, h⟩ := h
      refine WL_val gd0 ((o_nilCheck (by exact (congrArg Value.pointer q12))) _) rfl ?_
      refine WL_val gd0 ((o_fieldAddr 2 Try.underlying47 rfl Try.sizeOf45 rfl rfl rfl) _) rfl ?_
      obtain ⟨x_a13, x_n14, x_c15, hc16, h⟩ := h
      refine WL_val gd0 (o_load Try.isAgg45 rfl hc16) rfl ?_
      refine WL_val gd0 ((o_move (v := .int .i64 r8) rfl) _) rfl ?_
      obtain ⟨p19, q20, h⟩ := h
      obtain ⟨l17, u18, h⟩ := h
      refine WL_val gd0 ((o_indexAddr Try.underlying45 Try.sizeOf66 (by exact (congrArg (fun z => Value.slice z x_n14 x_c15) q20)) rfl l17 u18) _) rfl ?_
      refine WL_val gd0 ((o_fieldAddr0 Try.underlying66 rfl Try.sizeOf31 rfl rfl rfl) _) rfl ?_
      refine WL_val gd0 ((o_fieldAddr 2 Try.underlying31 rfl Try.sizeOf4 rfl rfl rfl) _) rfl ?_
      obtain ⟨t21, hc22, h⟩ := h
      refine WL_val gd0 (o_load Try.isAgg4 rfl hc22) rfl ?_
      refine WL_val gd0 ((o_assign (v := .bool t21) rfl) _) rfl ?_
      refine WL_nil ?_
      refine nrm ?_
      refine WC_cond (t := t21) rfl (fun hb23 => ?_) (fun hb23 => ?_)
      · rw [if_pos hb23] at h
        refine WC_seq ?_
        refine WC_region ?_
        refine WL_val gd0 ((o_assign (v := .int .i64 12) rfl) _) rfl ?_
        refine WL_nil ?_
        refine nrm ?_
        refine WC_ret ?_
        refine rtB ?_
        refine rtT ?_
        refine rtE ?_
        exact gv1 rfl rfl h
      · rw [if_neg (neT hb23)] at h
        refine WC_skip ?_
        refine nrmB ?_
        refine nrm ?_
        refine WC_seq ?_
        refine WC_region ?_
        refine WL_val gd0 ((o_move (v := .pointer s1) (by exact e0)) _) rfl ?_
        refine WL_val gd0 ((o_move (v := .pointer s1) (by exact e0)) _) rfl ?_
        refine WL_val gd0 ((o_nilCheck (by exact (congrArg Value.pointer q12))) _) rfl ?_
        refine WL_val gd0 ((o_fieldAddr 2 Try.underlying47 rfl Try.sizeOf45 rfl rfl rfl) _) rfl ?_
        obtain ⟨x_a24, x_n25, x_c26, hc27, h⟩ := h
        refine WL_val gd0 (o_load Try.isAgg45 rfl hc27) rfl ?_
        refine WL_val gd0 ((o_move (v := .int .i64 r8) rfl) _) rfl ?_
        refine WL_val gd0 ((o_move (v := .int .i64 r8) rfl) _) rfl ?_
        refine WL_val gd0 ((o_add rfl rfl) _) rfl ?_
        refine WL_call gd0 (o_call Try.call25 (argCons rfl (argCons rfl (argCons rfl argNil))) _) rfl (h.mono ?_)
        rintro _ w28 ⟨x_a29, x_n30, x_c31, rfl, h⟩
        refine WL_val gd0 ((o_nilCheck (by exact (congrArg Value.pointer q12))) _) rfl ?_
        refine WL_val gd0 ((o_fieldAddr 2 Try.underlying47 rfl Try.sizeOf45 rfl rfl rfl) _) rfl ?_
        obtain ⟨c33, h⟩ := h
        refine WL_act gd0 (o_store (v := .slice x_a29 x_n30 x_c31) Try.sizeOf45 rfl rfl rfl c33) ?_
        generalize hw32 : World.setCell w28 (p11.add 2) (.slice x_a29 x_n30 x_c31) = w32 at h ⊢
        try dsimp only at h
        refine WL_nil ?_
        refine nrm ?_
        refine WC_seq ?_
        refine WC_region ?_
        refine WL_val gd0 ((o_assign (v := .int .i64 0) rfl) _) rfl ?_
        refine WL_nil ?_
        refine nrm ?_
        refine WC_ret ?_
        refine rtE ?_
        exact gv1 rfl rfl h

def F11_b1 (x_n9 : Nat) (x_a8 : Option Addr) (out_a13 : Option Addr) (out_n14 : Nat) (out_c15 : Nat) (t19 : Int) (w20 : World) (nx20 : Option Addr → Nat → Nat → Int → World → Prop) (k : Value → World → Prop) : Prop :=
  if t19 < (x_n9 : Int) then
  ∃ (p25 : Addr), x_a8 = some p25 ∧ (0 : Int) ≤ t19 ∧ t19 < (x_n9 : Int) ∧ ∃ (x27 x28 : Int) (x29 : Bool) (x_a30 : Option Addr) (x_n31 x_c32 : Nat) (x33 : Int), Cells w20 (p25.add (t19.toNat * 5)) 0 [.int .i64 x27, .int .i64 x28, .bool x29, .slice x_a30 x_n31 x_c32, .int .i64 x33] ∧ New w20 66 [.int .i64 0, .int .i64 0, .bool false, .slice none 0 0, .int .i64 0] (fun p35 w36 => PutAll w36 p35 [.int .i64 x27, .int .i64 x28, .bool x29, .slice x_a30 x_n31 x_c32, .int .i64 x33] (fun w37 => ∃ (x_a39 : Option Addr) (x_n40 x_c41 : Nat), w37.cell? (p35.add 3) = some (.slice x_a39 x_n40 x_c41) ∧ Does Try.prog 23 #[.slice x_a39 x_n40 x_c41] w37 (fun v w43 => ∃ (x_a44 : Option Addr) (x_n45 x_c46 : Nat), v = .slice x_a44 x_n45 x_c46 ∧ Put w43 (p35.add 3) (.slice x_a44 x_n45 x_c46) (fun w47 => ∃ (x49 x50 : Int) (x51 : Bool) (x_a52 : Option Addr) (x_n53 x_c54 : Nat), Cells w47 p35 0 [.int .i64 x49, .int .i64 x50, .bool x51, .slice x_a52 x_n53 x_c54] ∧ New w47 31 [.int .i64 x49, .int .i64 x50, .bool x51, .slice x_a52 x_n53 x_c54] (fun p56 w57 => ∃ (b_a58 : Option Addr) (b_n59 b_c60 : Nat) (w61 : World), (Builtin.append_ #[28, 28] 28 #[.slice out_a13 out_n14 out_c15, .slice (some p56) 1 1]).run Try.prog w57 = .ok (.slice b_a58 b_n59 b_c60) w61 ∧ nx20 b_a58 b_n59 b_c60 (IntKind.i64.wrap (t19 + 1)) w61)))))
else
  k (.slice out_a13 out_n14 out_c15) w20
/-- (*spacecraft hk.Service).Structures -/
def F11 (s1 : Option Addr) (w2 : World) (k : Value → World → Prop) : Prop :=
  Does Try.prog 20 #[.pointer s1] w2 (fun v w3 => ∃ (x4 : Bool), v = .bool x4 ∧ if (!x4) = true then
  k (.slice none 0 0) w3
else
  ∃ (p6 : Addr), s1 = some p6 ∧ ∃ (x_a8 : Option Addr) (x_n9 x_c10 : Nat), w3.cell? (p6.add 2) = some (.slice x_a8 x_n9 x_c10) ∧ LoopP (fun (s : Option Addr × Nat × Nat × Int) w' nx' => F11_b1 x_n9 x_a8 (s.1) (s.2.1) (s.2.2.1) (s.2.2.2) w' (fun x0 x1 x2 x3 w => nx' (x0, x1, x2, x3) w) k) (none, 0, 0, 0) w3)
set_option maxRecDepth 100000 in
set_option maxHeartbeats 2000000 in
theorem w11 (s1 : Option Addr) (w2 : World) (k : Value → World → Prop) (h : F11 s1 w2 k) : Does Try.prog 11 #[.pointer s1] w2 k := by
  refine enter 31 Try.func11 rfl rfl rfl ?_
  intro ρ hρ
  have e0 := hρ 0 _ rfl
  unfold F11 at h
  refine WC_seq ?_
  refine WC_region ?_
  refine WL_val gd0 ((o_assign (v := .slice none 0 0) rfl) _) rfl ?_
  refine WL_nil ?_
  refine nrm ?_
  refine WC_seq ?_
  refine WC_seq ?_
  refine WC_region ?_
  refine WL_val gd0 ((o_move (v := .pointer s1) (by exact e0)) _) rfl ?_
  refine WL_call gd0 (o_call Try.call20 (argCons rfl argNil) _) rfl (h.mono ?_)
  rintro _ w3 ⟨x4, rfl, h⟩
  refine WL_val gd0 ((o_not rfl) _) rfl ?_
  refine WL_nil ?_
  refine nrm ?_
  refine WC_cond (t := (!x4)) rfl (fun hb5 => ?_) (fun hb5 => ?_)
  · rw [if_pos hb5] at h
    refine WC_seq ?_
    refine WC_region ?_
    refine WL_val gd0 ((o_assign (v := .slice none 0 0) rfl) _) rfl ?_
    refine WL_nil ?_
    refine nrm ?_
    refine WC_ret ?_
    refine rtT ?_
    refine rtE ?_
    exact gv1 rfl rfl h
  · rw [if_neg (neT hb5)] at h
    refine WC_skip ?_
    refine nrm ?_
    refine WC_seq ?_
    refine WC_region ?_
    refine WL_val gd0 ((o_assign (v := .slice none 0 0) rfl) _) rfl ?_
    refine WL_nil ?_
    refine nrm ?_
    refine WC_seq ?_
    refine WC_seq ?_
    refine WC_region ?_
    refine WL_val gd0 ((o_move (v := .pointer s1) (by exact e0)) _) rfl ?_
    obtain ⟨p6, q7, h⟩ := h
    refine WL_val gd0 ((o_nilCheck (by exact (congrArg Value.pointer q7))) _) rfl ?_
    refine WL_val gd0 ((o_fieldAddr 2 Try.underlying47 rfl Try.sizeOf45 rfl rfl rfl) _) rfl ?_
    obtain ⟨x_a8, x_n9, x_c10, hc11, h⟩ := h
    refine WL_val gd0 (o_load Try.isAgg45 rfl hc11) rfl ?_
    refine WL_val gd0 ((o_len Try.underlying45 rfl) _) rfl ?_
    refine WL_val gd0 ((o_move (v := .int .i64 0) rfl) _) rfl ?_
    refine WL_nil ?_
    refine nrm ?_
    refine WC_block ?_
    obtain ⟨J20, ⟨n20, h0⟩, hr20⟩ := h
    refine WC_loop (fun n ρ w' => ∃ (out_a13 : Option Addr) (out_n14 out_c15 : Nat) (t19 : Int), ρ 3 = .slice out_a13 out_n14 out_c15 ∧ ρ 14 = .int .i64 t19 ∧ ρ 12 = .slice x_a8 x_n9 x_c10 ∧ ρ 13 = .int .i64 (x_n9 : Int) ∧ J20 n (out_a13, out_n14, out_c15, t19) w') ⟨n20, _, _, _, _, rfl, rfl, rfl, rfl, h0⟩ ?_
    rintro n20 ρ w20 ⟨out_a13, out_n14, out_c15, t19, e3_12, e14_18, e12_16, e13_17, h⟩
    have h : F11_b1 x_n9 x_a8 out_a13 out_n14 out_c15 t19 w20 (fun x0 x1 x2 x3 w => ∃ m, m < n20 ∧ J20 m (x0, x1, x2, x3) w) k := hr20 n20 (out_a13, out_n14, out_c15, t19) w20 h
    unfold F11_b1 at h
    refine WC_seq ?_
    refine WC_region ?_
    refine WL_val gd0 ((o_lss (by exact e14_18) (by exact e13_17)) _) rfl ?_
    refine WL_nil ?_
    refine nrm ?_
    refine WC_seq ?_
    refine WC_cond (t := (decide (t19 < (x_n9 : Int)))) rfl (fun hb22 => ?_) (fun hb22 => ?_)
    · rw [if_pos (of_decide_eq_true hb22)] at h
      refine WC_skip ?_
      refine nrm ?_
      refine WC_seq ?_
      refine WC_block ?_
      refine WC_seq ?_
      refine WC_region ?_
      obtain ⟨p25, q26, h⟩ := h
      obtain ⟨l23, u24, h⟩ := h
      refine WL_val gd0 ((o_indexAddr Try.underlying45 Try.sizeOf66 (by exact (Eq.trans e12_16 (congrArg (fun z => Value.slice z x_n9 x_c10) q26))) (by exact e14_18) l23 u24) _) rfl ?_
      obtain ⟨x27, x28, x29, x_a30, x_n31, x_c32, x33, hc34, h⟩ := h
      refine WL_val gd0 (o_loadAgg (vs := [.int .i64 x27, .int .i64 x28, .bool x29, .slice x_a30 x_n31 x_c32, .int .i64 x33]) Try.isAgg66 Try.sizeOf66 rfl hc34) rfl ?_
      have h := New.out h
      refine WL_val gd0 (o_alloc (z := .agg #[.int .i64 0, .int .i64 0, .bool false, .slice none 0 0, .int .i64 0]) (cs := [.int .i64 0, .int .i64 0, .bool false, .slice none 0 0, .int .i64 0]) Try.zeroValue66 rfl) rfl ?_
      generalize hp35 : fresh w20 = p35 at h ⊢
      generalize hw36 : push w20 66 [.int .i64 0, .int .i64 0, .bool false, .slice none 0 0, .int .i64 0] = w36 at h ⊢
      try dsimp only at h
      obtain ⟨c38, h⟩ := h
      refine WL_act gd0 (o_storeAgg (vs := [.int .i64 x27, .int .i64 x28, .bool x29, .slice x_a30 x_n31 x_c32, .int .i64 x33]) Try.sizeOf66 rfl rfl rfl c38) ?_
      generalize hw37 : setAll w36 p35 0 [.int .i64 x27, .int .i64 x28, .bool x29, .slice x_a30 x_n31 x_c32, .int .i64 x33] = w37 at h ⊢
      try dsimp only at h
      refine WL_nil ?_
      refine nrm ?_
      refine WC_seq ?_
      refine WC_region ?_
      refine WL_val gd0 ((o_fieldAddr0 Try.underlying66 rfl Try.sizeOf31 rfl rfl rfl) _) rfl ?_
      refine WL_val gd0 ((o_fieldAddr 3 Try.underlying31 rfl Try.sizeOf26 rfl rfl rfl) _) rfl ?_
      obtain ⟨x_a39, x_n40, x_c41, hc42, h⟩ := h
      refine WL_val gd0 (o_load Try.isAgg26 rfl hc42) rfl ?_
      refine WL_call gd0 (o_call Try.call23 (argCons rfl argNil) _) rfl (h.mono ?_)
      rintro _ w43 ⟨x_a44, x_n45, x_c46, rfl, h⟩
      refine WL_val gd0 ((o_fieldAddr0 Try.underlying66 rfl Try.sizeOf31 rfl rfl rfl) _) rfl ?_
      refine WL_val gd0 ((o_fieldAddr 3 Try.underlying31 rfl Try.sizeOf26 rfl rfl rfl) _) rfl ?_
      obtain ⟨c48, h⟩ := h
      refine WL_act gd0 (o_store (v := .slice x_a44 x_n45 x_c46) Try.sizeOf26 rfl rfl rfl c48) ?_
      generalize hw47 : World.setCell w43 (p35.add 3) (.slice x_a44 x_n45 x_c46) = w47 at h ⊢
      try dsimp only at h
      refine WL_nil ?_
      refine nrm ?_
      refine WC_region ?_
      refine WL_val gd0 ((o_move (v := .slice out_a13 out_n14 out_c15) (by exact e3_12)) _) rfl ?_
      refine WL_val gd0 ((o_fieldAddr0 Try.underlying66 rfl Try.sizeOf31 rfl rfl rfl) _) rfl ?_
      obtain ⟨x49, x50, x51, x_a52, x_n53, x_c54, hc55, h⟩ := h
      refine WL_val gd0 (o_loadAgg (vs := [.int .i64 x49, .int .i64 x50, .bool x51, .slice x_a52 x_n53 x_c54]) Try.isAgg31 Try.sizeOf31 rfl hc55) rfl ?_
      have h := New.out h
      refine WL_val gd0 (o_buildSlice (e := 31) (ps := [(0, .agg #[.int .i64 x49, .int .i64 x50, .bool x51, .slice x_a52 x_n53 x_c54])]) (cs := [.int .i64 x49, .int .i64 x50, .bool x51, .slice x_a52 x_n53 x_c54]) (partCons rfl partNil) (fun w => by kernel_rfl)) rfl ?_
      generalize hp56 : fresh w47 = p56 at h ⊢
      generalize hw57 : push w47 31 [.int .i64 x49, .int .i64 x50, .bool x51, .slice x_a52 x_n53 x_c54] = w57 at h ⊢
      try dsimp only at h
      obtain ⟨b_a58, b_n59, b_c60, w61, r62, h⟩ := h
      refine WL_val gd0 (o_append rfl rfl r62) rfl ?_
      refine WL_val gd0 ((o_assign (v := .slice b_a58 b_n59 b_c60) rfl) _) rfl ?_
      refine WL_nil ?_
      refine nrmB ?_
      refine nrm ?_
      refine WC_region ?_
      refine WL_val gd0 ((o_add (by exact e14_18) rfl) _) rfl ?_
      refine WL_val gd0 ((o_move (v := .int .i64 (IntKind.i64.wrap (t19 + 1))) rfl) _) rfl ?_
      refine WL_nil ?_
      refine nrm ?_
      obtain ⟨m21, hm21, h⟩ := h
      exact ⟨m21, hm21, _, _, _, _, rfl, rfl, e12_16, e13_17, h⟩
    · rw [if_neg (of_decide_eq_false hb22)] at h
      refine WC_exit ?_
      refine exT ?_
      refine exT ?_
      refine exB ?_
      refine nrm ?_
      refine WC_seq ?_
      refine WC_region ?_
      refine WL_val gd0 ((o_move (v := .slice out_a13 out_n14 out_c15) (by exact e3_12)) _) rfl ?_
      refine WL_val gd0 ((o_assign (v := .slice out_a13 out_n14 out_c15) rfl) _) rfl ?_
      refine WL_nil ?_
      refine nrm ?_
      refine WC_ret ?_
      refine rtE ?_
      exact gv1 rfl rfl h


end Go.Proofs.Ytcgkmmiokmbjdaa
