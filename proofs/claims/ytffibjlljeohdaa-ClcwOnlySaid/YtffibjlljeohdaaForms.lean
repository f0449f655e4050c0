/-
  The forms of the functions, and their walks: written by a program of this claim (gen.py) off the elaborated translation.
-/
import Derived.Test.YtffibjlljeohdaaProg
import Derived.Test.YtffibjlljeohdaaBase
import Derived.KernelRfl
namespace Go.Proofs.Ytffibjlljeohdaa
open Go Go.Sh Go.Proofs
set_option linter.unusedVariables false
theorem Try.mixed : Try.prog.follows .mixedOrders = true := by kernel_rfl
/-- spacecraft spacecraftlaw15.ClcwEncodes -/
def F3 (c1 : Int) (c2 : Bool) (c3 : Bool) (c4 : Bool) (c5 : Int) (c6 : Int) (w7 : World) (k : Value → World → Prop) : Prop :=
  New w7 23 [.int .i64 c1, .bool c2, .bool c3, .bool c4, .int .i64 c5, .int .i64 c6] (fun p8 w9 => ∃ (x10 : Int) (x11 x12 x13 : Bool) (x14 x15 : Int), Cells w9 p8 0 [.int .i64 x10, .bool x11, .bool x12, .bool x13, .int .i64 x14, .int .i64 x15] ∧ Does Try.prog 7 #[.agg #[.int .i64 x10, .bool x11, .bool x12, .bool x13, .int .i64 x14, .int .i64 x15]] w9 (fun v w17 => ∃ (r_a18 : Option Addr) (r_n19 r_c20 : Nat) (r21 : Int), v = .tuple #[.slice r_a18 r_n19 r_c20, .int .i64 r21] ∧ ∃ (x22 : Int) (x23 x24 x25 : Bool) (x26 x27 : Int), Cells w17 p8 0 [.int .i64 x22, .bool x23, .bool x24, .bool x25, .int .i64 x26, .int .i64 x27] ∧ Does Try.prog 8 #[.agg #[.int .i64 x22, .bool x23, .bool x24, .bool x25, .int .i64 x26, .int .i64 x27]] w17 (fun v w29 => ∃ (r_a30 : Option Addr) (r_n31 r_c32 : Nat) (r33 : Int), v = .tuple #[.slice r_a30 r_n31 r_c32, .int .i64 r33] ∧ ∃ (x34 : Int) (x35 x36 x37 : Bool) (x38 x39 : Int), Cells w29.drew p8 0 [.int .i64 x34, .bool x35, .bool x36, .bool x37, .int .i64 x38, .int .i64 x39] ∧ ∃ (x41 : Int) (x42 x43 x44 : Bool) (x45 x46 : Int), Cells w29.drew p8 0 [.int .i64 x41, .bool x42, .bool x43, .bool x44, .int .i64 x45, .int .i64 x46] ∧ Does Try.prog 9 #[.agg #[.int .i64 x34, .bool x35, .bool x36, .bool x37, .int .i64 x38, .int .i64 x39]] w29.drew (fun v w48 => ∃ (x49 : Bool), v = .bool x49 ∧ Cells w48 p8 0 [.int .i64 x41, .bool x42, .bool x43, .bool x44, .int .i64 x45, .int .i64 x46] ∧ Does Try.prog 10 #[.agg #[.int .i64 x41, .bool x42, .bool x43, .bool x44, .int .i64 x45, .int .i64 x46]] w48 (fun v w51 => ∃ (x52 : Bool), v = .bool x52 ∧ if (x49 == x52) = true then
  ∃ (s54 : ByteArray), (Conv.bytesToString (.slice r_a18 r_n19 r_c20)).run Try.prog w51 = .ok (.string s54) w51 ∧ ∃ (s56 : ByteArray), (Conv.bytesToString (.slice r_a30 r_n31 r_c32)).run Try.prog w51 = .ok (.string s56) w51 ∧ if (s54.toList == s56.toList) = true then
    if r21 = r33 then
      Does Try.prog 11 #[] w51 (fun v w60 => ∃ (x61 : Bool), v = .bool x61 ∧ k (.bool x61) w60)
    else
      k (.bool false) w51
  else
    k (.bool false) w51
else
  k (.bool false) w51)))))
set_option maxRecDepth 100000 in
set_option maxHeartbeats 2000000 in
theorem w3 (c1 : Int) (c2 : Bool) (c3 : Bool) (c4 : Bool) (c5 : Int) (c6 : Int) (w7 : World) (k : Value → World → Prop) (h : F3 c1 c2 c3 c4 c5 c6 w7 k) : Does Try.prog 3 #[.agg #[.int .i64 c1, .bool c2, .bool c3, .bool c4, .int .i64 c5, .int .i64 c6]] w7 k := by
  refine enter 37 Try.func3 rfl rfl rfl ?_
  intro ρ hρ
  have e0 := hρ 0 _ rfl
  unfold F3 at h
  refine WC_seq ?_
  refine WC_region ?_
  have h := New.out h
  refine WL_val gd0 (o_box (v := .agg #[.int .i64 c1, .bool c2, .bool c3, .bool c4, .int .i64 c5, .int .i64 c6]) (cs := [.int .i64 c1, .bool c2, .bool c3, .bool c4, .int .i64 c5, .int .i64 c6]) (by exact e0) rfl) rfl ?_
  generalize hp8 : fresh w7 = p8 at h ⊢
  generalize hw9 : push w7 23 [.int .i64 c1, .bool c2, .bool c3, .bool c4, .int .i64 c5, .int .i64 c6] = w9 at h ⊢
  try dsimp only at h
  refine WL_val gd0 ((o_assign (v := .bool false) rfl) _) rfl ?_
  refine WL_nil ?_
  refine nrm ?_
  refine WC_seq ?_
  refine WC_region ?_
  obtain ⟨x10, x11, x12, x13, x14, x15, hc16, h⟩ := h
  refine WL_val gd0 (o_loadAgg (vs := [.int .i64 x10, .bool x11, .bool x12, .bool x13, .int .i64 x14, .int .i64 x15]) Try.isAgg23 Try.sizeOf23 rfl hc16) rfl ?_
  refine WL_call gd0 (o_call Try.call7 (argCons rfl argNil) _) rfl (h.mono ?_)
  rintro _ w17 ⟨r_a18, r_n19, r_c20, r21, rfl, h⟩
  refine WL_val gd0 ((o_move (v := .tuple #[.slice r_a18 r_n19 r_c20, .int .i64 r21]) rfl) _) rfl ?_
  refine WL_val gd0 ((o_extract (vs := [.slice r_a18 r_n19 r_c20, .int .i64 r21]) (r := .slice r_a18 r_n19 r_c20) rfl rfl) _) rfl ?_
  refine WL_val gd0 ((o_extract (vs := [.slice r_a18 r_n19 r_c20, .int .i64 r21]) (r := .int .i64 r21) rfl rfl) _) rfl ?_
  refine WL_val gd0 ((o_assign (v := .slice r_a18 r_n19 r_c20) rfl) _) rfl ?_
  refine WL_val gd0 ((o_assign (v := .int .i64 r21) rfl) _) rfl ?_
  refine WL_nil ?_
  refine nrm ?_
  refine WC_seq ?_
  refine WC_region ?_
  obtain ⟨x22, x23, x24, x25, x26, x27, hc28, h⟩ := h
  refine WL_val gd0 (o_loadAgg (vs := [.int .i64 x22, .bool x23, .bool x24, .bool x25, .int .i64 x26, .int .i64 x27]) Try.isAgg23 Try.sizeOf23 rfl hc28) rfl ?_
  refine WL_call gd0 (o_call Try.call8 (argCons rfl argNil) _) rfl (h.mono ?_)
  rintro _ w29 ⟨r_a30, r_n31, r_c32, r33, rfl, h⟩
  refine WL_val gd0 ((o_move (v := .tuple #[.slice r_a30 r_n31 r_c32, .int .i64 r33]) rfl) _) rfl ?_
  refine WL_val gd0 ((o_extract (vs := [.slice r_a30 r_n31 r_c32, .int .i64 r33]) (r := .slice r_a30 r_n31 r_c32) rfl rfl) _) rfl ?_
  refine WL_val gd0 ((o_extract (vs := [.slice r_a30 r_n31 r_c32, .int .i64 r33]) (r := .int .i64 r33) rfl rfl) _) rfl ?_
  refine WL_val gd0 ((o_assign (v := .slice r_a30 r_n31 r_c32) rfl) _) rfl ?_
  refine WL_val gd0 ((o_assign (v := .int .i64 r33) rfl) _) rfl ?_
  refine WL_nil ?_
  refine nrm ?_
  refine WC_seq ?_
  refine WC_draws [1, 3, 18] (.look 0 (.look 2 (.act 1 (.act 3 (.look 4 (.look 5 (.look 6 (.look 7 (.look 8 (.look 9 (.look 10 (.look 11 (.look 12 (.look 13 (.look 14 (.look 15 (.look 16 (.look 17 (.act 18 (.look 19 (.look 20 .nil))))))))))))))))))))) Try.mixed (by kernel_rfl) ?_
  obtain ⟨x34, x35, x36, x37, x38, x39, hc40, h⟩ := h
  refine WQ_look (fun w => Cells w p8 0 [.int .i64 x34, .bool x35, .bool x36, .bool x37, .int .i64 x38, .int .i64 x39]) rfl gd0 (fun w hc => (o_loadAgg (vs := [.int .i64 x34, .bool x35, .bool x36, .bool x37, .int .i64 x38, .int .i64 x39]) Try.isAgg23 Try.sizeOf23 rfl hc)) hc40 rfl ?_
  obtain ⟨x41, x42, x43, x44, x45, x46, hc47, h⟩ := h
  refine WQ_look (fun w => Cells w p8 0 [.int .i64 x41, .bool x42, .bool x43, .bool x44, .int .i64 x45, .int .i64 x46]) rfl gd0 (fun w hc => (o_loadAgg (vs := [.int .i64 x41, .bool x42, .bool x43, .bool x44, .int .i64 x45, .int .i64 x46]) Try.isAgg23 Try.sizeOf23 rfl hc)) hc47 rfl ?_
  refine WQ_call rfl gd0 (o_call Try.call9 (argCons rfl argNil) _) rfl (h.mono ?_)
  rintro _ w48 ⟨x49, rfl, hh50, h⟩
  refine ⟨⟨⟨trivial, depT (by kernel_rfl)⟩, fun _ => hh50⟩, ?_⟩
  refine WQ_call rfl gd0 (o_call Try.call10 (argCons rfl argNil) _) rfl (h.mono ?_)
  rintro _ w51 ⟨x52, rfl, h⟩
  refine ⟨⟨⟨trivial, depT (by kernel_rfl)⟩, depT (by kernel_rfl)⟩, ?_⟩
  refine WQ_val rfl gd0 (o_eqlBool Try.underlying4 rfl rfl) rfl ?_
  refine WQ_val rfl gd0 (o_move (v := .bool (x49 == x52)) rfl) rfl ?_
  refine bsplit (x49 == x52) (fun hb53 => ?_) (fun hb53 => ?_)
  · rw [if_pos hb53] at h
    refine WQ_val rfl (gdY (b := (x49 == x52)) 22 rfl rfl hb53) (o_move (v := .slice r_a18 r_n19 r_c20) rfl) rfl ?_
    obtain ⟨s54, r55, h⟩ := h
    refine WQ_look (fun w => (Conv.bytesToString (.slice r_a18 r_n19 r_c20)).run Try.prog w = .ok (.string s54) w) rfl (gdY (b := (x49 == x52)) 22 rfl rfl hb53) (fun w hc => (o_toStr Try.underlying24 Try.underlying5 Try.underlying9 rfl hc)) r55 rfl ?_
    refine WQ_val rfl (gdY (b := (x49 == x52)) 22 rfl rfl hb53) (o_move (v := .slice r_a30 r_n31 r_c32) rfl) rfl ?_
    obtain ⟨s56, r57, h⟩ := h
    refine WQ_look (fun w => (Conv.bytesToString (.slice r_a30 r_n31 r_c32)).run Try.prog w = .ok (.string s56) w) rfl (gdY (b := (x49 == x52)) 22 rfl rfl hb53) (fun w hc => (o_toStr Try.underlying24 Try.underlying5 Try.underlying9 rfl hc)) r57 rfl ?_
    refine WQ_val rfl (gdY (b := (x49 == x52)) 22 rfl rfl hb53) (o_eqlStr rfl rfl) rfl ?_
    refine WQ_val rfl gd0 (o_pickT (v := .bool (s54.toList == s56.toList)) rfl hb53 rfl) rfl ?_
    refine WQ_val rfl gd0 (o_move (v := .bool (s54.toList == s56.toList)) rfl) rfl ?_
    refine bsplit (s54.toList == s56.toList) (fun hb58 => ?_) (fun hb58 => ?_)
    · rw [if_pos hb58] at h
      refine WQ_val rfl (gdY (b := (s54.toList == s56.toList)) 29 rfl rfl hb58) (o_move (v := .int .i64 r21) rfl) rfl ?_
      refine WQ_val rfl (gdY (b := (s54.toList == s56.toList)) 29 rfl rfl hb58) (o_move (v := .int .i64 r33) rfl) rfl ?_
      refine WQ_val rfl (gdY (b := (s54.toList == s56.toList)) 29 rfl rfl hb58) (o_eql rfl rfl) rfl ?_
      refine WQ_val rfl gd0 (o_pickT (v := .bool (decide (r21 = r33))) rfl hb58 rfl) rfl ?_
      refine WQ_val rfl gd0 (o_move (v := .bool (decide (r21 = r33))) rfl) rfl ?_
      refine bsplit (decide (r21 = r33)) (fun hb59 => ?_) (fun hb59 => ?_)
      · rw [if_pos (of_decide_eq_true hb59)] at h
        refine WQ_call rfl (gdY (b := (decide (r21 = r33))) 34 rfl rfl hb59) (o_call Try.call11 argNil _) rfl (h.mono ?_)
        rintro _ w60 ⟨x61, rfl, h⟩
        refine ⟨⟨⟨⟨⟨trivial, depT (by kernel_rfl)⟩, depT (by kernel_rfl)⟩, depT (by kernel_rfl)⟩, depT (by kernel_rfl)⟩, ?_⟩
        refine WQ_val rfl gd0 (o_pickT (v := .bool x61) rfl hb59 rfl) rfl ?_
        refine WQ_val rfl gd0 (o_assign (v := .bool x61) rfl) rfl ?_
        refine WQ_nil ?_
        refine nrm ?_
        refine WC_ret ?_
        refine rtE ?_
        exact gv1 rfl rfl h
      · rw [if_neg (of_decide_eq_false hb59)] at h
        refine WQ_passAct rfl (gdN (b := (decide (r21 = r33))) 34 rfl rfl hb59) rfl (by exact ⟨⟨⟨⟨trivial, depT (by kernel_rfl)⟩, depT (by kernel_rfl)⟩, depT (by kernel_rfl)⟩, depT (by kernel_rfl)⟩) ?_
        refine WQ_val rfl gd0 (o_pickF (v := .bool false) rfl hb59 rfl) rfl ?_
        refine WQ_val rfl gd0 (o_assign (v := .bool false) rfl) rfl ?_
        refine WQ_nil ?_
        refine nrm ?_
        refine WC_ret ?_
        refine rtE ?_
        exact gv1 rfl rfl h
    · rw [if_neg (neT hb58)] at h
      refine WQ_skip rfl (gdN (b := (s54.toList == s56.toList)) 29 rfl rfl hb58) rfl ?_
      refine WQ_skip rfl (gdN (b := (s54.toList == s56.toList)) 29 rfl rfl hb58) rfl ?_
      refine WQ_skip rfl (gdN (b := (s54.toList == s56.toList)) 29 rfl rfl hb58) rfl ?_
      refine WQ_val rfl gd0 (o_pickF (v := .bool false) rfl hb58 rfl) rfl ?_
      refine WQ_val rfl gd0 (o_move (v := .bool false) rfl) rfl ?_
      refine WQ_passAct rfl (gdN (b := false) 34 rfl rfl rfl) rfl (by exact ⟨⟨⟨⟨trivial, depT (by kernel_rfl)⟩, depT (by kernel_rfl)⟩, depT (by kernel_rfl)⟩, depT (by kernel_rfl)⟩) ?_
      refine WQ_val rfl gd0 (o_pickF (v := .bool false) rfl rfl rfl) rfl ?_
      refine WQ_val rfl gd0 (o_assign (v := .bool false) rfl) rfl ?_
      refine WQ_nil ?_
      refine nrm ?_
      refine WC_ret ?_
      refine rtE ?_
      exact gv1 rfl rfl h
  · rw [if_neg (neT hb53)] at h
    refine WQ_skip rfl (gdN (b := (x49 == x52)) 22 rfl rfl hb53) rfl ?_
    refine WQ_skip rfl (gdN (b := (x49 == x52)) 22 rfl rfl hb53) rfl ?_
    refine WQ_skip rfl (gdN (b := (x49 == x52)) 22 rfl rfl hb53) rfl ?_
    refine WQ_skip rfl (gdN (b := (x49 == x52)) 22 rfl rfl hb53) rfl ?_
    refine WQ_skip rfl (gdN (b := (x49 == x52)) 22 rfl rfl hb53) rfl ?_
    refine WQ_val rfl gd0 (o_pickF (v := .bool false) rfl hb53 rfl) rfl ?_
    refine WQ_val rfl gd0 (o_move (v := .bool false) rfl) rfl ?_
    refine WQ_skip rfl (gdN (b := false) 29 rfl rfl rfl) rfl ?_
    refine WQ_skip rfl (gdN (b := false) 29 rfl rfl rfl) rfl ?_
    refine WQ_skip rfl (gdN (b := false) 29 rfl rfl rfl) rfl ?_
    refine WQ_val rfl gd0 (o_pickF (v := .bool false) rfl rfl rfl) rfl ?_
    refine WQ_val rfl gd0 (o_move (v := .bool false) rfl) rfl ?_
    refine WQ_passAct rfl (gdN (b := false) 34 rfl rfl rfl) rfl (by exact ⟨⟨trivial, depT (by kernel_rfl)⟩, depT (by kernel_rfl)⟩) ?_
    refine WQ_val rfl gd0 (o_pickF (v := .bool false) rfl rfl rfl) rfl ?_
    refine WQ_val rfl gd0 (o_assign (v := .bool false) rfl) rfl ?_
    refine WQ_nil ?_
    refine nrm ?_
    refine WC_ret ?_
    refine rtE ?_
    exact gv1 rfl rfl h

/-- spacecraft spacecraftlaw15.ClcwDecodes -/
def F4 (b_a1 : Option Addr) (b_n2 : Nat) (b_c3 : Nat) (w4 : World) (k : Value → World → Prop) : Prop :=
  if 100 < (b_n2 : Int) then
  Does Try.prog 11 #[] w4 (fun v w6 => ∃ (t7 : Bool), v = .bool t7 ∧ k (.bool t7) w6)
else
  Does Try.prog 12 #[.slice b_a1 b_n2 b_c3] w4 (fun v w8 => ∃ (r9 : Int) (r10 r11 r12 : Bool) (r13 r14 r15 : Int), v = .tuple #[.agg #[.int .i64 r9, .bool r10, .bool r11, .bool r12, .int .i64 r13, .int .i64 r14], .int .i64 r15] ∧ New w8 23 [.int .i64 0, .bool false, .bool false, .bool false, .int .i64 0, .int .i64 0] (fun p16 w17 => PutAll w17 p16 [.int .i64 r9, .bool r10, .bool r11, .bool r12, .int .i64 r13, .int .i64 r14] (fun w18 => Does Try.prog 13 #[.slice b_a1 b_n2 b_c3] w18 (fun v w20 => ∃ (r21 : Int) (r22 r23 r24 : Bool) (r25 r26 r27 : Int), v = .tuple #[.agg #[.int .i64 r21, .bool r22, .bool r23, .bool r24, .int .i64 r25, .int .i64 r26], .int .i64 r27] ∧ New w20 23 [.int .i64 0, .bool false, .bool false, .bool false, .int .i64 0, .int .i64 0] (fun p28 w29 => PutAll w29 p28 [.int .i64 r21, .bool r22, .bool r23, .bool r24, .int .i64 r25, .int .i64 r26] (fun w30 => ∃ (x32 : Int) (x33 x34 x35 : Bool) (x36 x37 : Int), Cells w30 p16 0 [.int .i64 x32, .bool x33, .bool x34, .bool x35, .int .i64 x36, .int .i64 x37] ∧ ∃ (x39 : Int) (x40 x41 x42 : Bool) (x43 x44 : Int), Cells w30 p28 0 [.int .i64 x39, .bool x40, .bool x41, .bool x42, .int .i64 x43, .int .i64 x44] ∧ ∃ (eq46 : Bool), (∀ w d, (Op.equalIn (d + 5) 23 (.agg #[.int .i64 x32, .bool x33, .bool x34, .bool x35, .int .i64 x36, .int .i64 x37]) (.agg #[.int .i64 x39, .bool x40, .bool x41, .bool x42, .int .i64 x43, .int .i64 x44])).run Try.prog w = .ok eq46 w) ∧ if eq46 = true then
    if r15 = r27 then
      Does Try.prog 11 #[] w30 (fun v w50 => ∃ (x51 : Bool), v = .bool x51 ∧ k (.bool x51) w50)
    else
      k (.bool false) w30
  else
    k (.bool false) w30))))))
set_option maxRecDepth 100000 in
set_option maxHeartbeats 2000000 in
theorem w4 (b_a1 : Option Addr) (b_n2 : Nat) (b_c3 : Nat) (w4 : World) (k : Value → World → Prop) (h : F4 b_a1 b_n2 b_c3 w4 k) : Does Try.prog 4 #[.slice b_a1 b_n2 b_c3] w4 k := by
  refine enter 32 Try.func4 rfl rfl rfl ?_
  intro ρ hρ
  have e0 := hρ 0 _ rfl
  unfold F4 at h
  refine WC_seq ?_
  refine WC_region ?_
  refine WL_val gd0 ((o_assign (v := .bool false) rfl) _) rfl ?_
  refine WL_nil ?_
  refine nrm ?_
  refine WC_seq ?_
  refine WC_seq ?_
  refine WC_region ?_
  refine WL_val gd0 ((o_move (v := .slice b_a1 b_n2 b_c3) (by exact e0)) _) rfl ?_
  refine WL_val gd0 ((o_len Try.underlying24 rfl) _) rfl ?_
  refine WL_val gd0 ((o_gtr rfl rfl) _) rfl ?_
  refine WL_nil ?_
  refine nrm ?_
  refine WC_cond (t := (decide (100 < (b_n2 : Int)))) rfl (fun hb5 => ?_) (fun hb5 => ?_)
  · rw [if_pos (of_decide_eq_true hb5)] at h
    refine WC_seq ?_
    refine WC_region ?_
    refine WL_call gd0 (o_call Try.call11 argNil _) rfl (h.mono ?_)
    rintro _ w6 ⟨t7, rfl, h⟩
    refine WL_val gd0 ((o_assign (v := .bool t7) rfl) _) rfl ?_
    refine WL_nil ?_
    refine nrm ?_
    refine WC_ret ?_
    refine rtT ?_
    refine rtE ?_
    exact gv1 rfl rfl h
  · rw [if_neg (of_decide_eq_false hb5)] at h
    refine WC_skip ?_
    refine nrm ?_
    refine WC_seq ?_
    refine WC_region ?_
    refine WL_val gd0 ((o_move (v := .slice b_a1 b_n2 b_c3) (by exact e0)) _) rfl ?_
    refine WL_call gd0 (o_call Try.call12 (argCons rfl argNil) _) rfl (h.mono ?_)
    rintro _ w8 ⟨r9, r10, r11, r12, r13, r14, r15, rfl, h⟩
    refine WL_val gd0 ((o_move (v := .tuple #[.agg #[.int .i64 r9, .bool r10, .bool r11, .bool r12, .int .i64 r13, .int .i64 r14], .int .i64 r15]) rfl) _) rfl ?_
    refine WL_val gd0 ((o_extract (vs := [.agg #[.int .i64 r9, .bool r10, .bool r11, .bool r12, .int .i64 r13, .int .i64 r14], .int .i64 r15]) (r := .agg #[.int .i64 r9, .bool r10, .bool r11, .bool r12, .int .i64 r13, .int .i64 r14]) rfl rfl) _) rfl ?_
    refine WL_val gd0 ((o_extract (vs := [.agg #[.int .i64 r9, .bool r10, .bool r11, .bool r12, .int .i64 r13, .int .i64 r14], .int .i64 r15]) (r := .int .i64 r15) rfl rfl) _) rfl ?_
    have h := New.out h
    refine WL_val gd0 (o_alloc (z := .agg #[.int .i64 0, .bool false, .bool false, .bool false, .int .i64 0, .int .i64 0]) (cs := [.int .i64 0, .bool false, .bool false, .bool false, .int .i64 0, .int .i64 0]) Try.zeroValue23 rfl) rfl ?_
    generalize hp16 : fresh w8 = p16 at h ⊢
    generalize hw17 : push w8 23 [.int .i64 0, .bool false, .bool false, .bool false, .int .i64 0, .int .i64 0] = w17 at h ⊢
    try dsimp only at h
    obtain ⟨c19, h⟩ := h
    refine WL_act gd0 (o_storeAgg (vs := [.int .i64 r9, .bool r10, .bool r11, .bool r12, .int .i64 r13, .int .i64 r14]) Try.sizeOf23 rfl rfl rfl c19) ?_
    generalize hw18 : setAll w17 p16 0 [.int .i64 r9, .bool r10, .bool r11, .bool r12, .int .i64 r13, .int .i64 r14] = w18 at h ⊢
    try dsimp only at h
    refine WL_val gd0 ((o_assign (v := .int .i64 r15) rfl) _) rfl ?_
    refine WL_nil ?_
    refine nrm ?_
    refine WC_seq ?_
    refine WC_region ?_
    refine WL_val gd0 ((o_move (v := .slice b_a1 b_n2 b_c3) (by exact e0)) _) rfl ?_
    refine WL_call gd0 (o_call Try.call13 (argCons rfl argNil) _) rfl (h.mono ?_)
    rintro _ w20 ⟨r21, r22, r23, r24, r25, r26, r27, rfl, h⟩
    refine WL_val gd0 ((o_move (v := .tuple #[.agg #[.int .i64 r21, .bool r22, .bool r23, .bool r24, .int .i64 r25, .int .i64 r26], .int .i64 r27]) rfl) _) rfl ?_
    refine WL_val gd0 ((o_extract (vs := [.agg #[.int .i64 r21, .bool r22, .bool r23, .bool r24, .int .i64 r25, .int .i64 r26], .int .i64 r27]) (r := .agg #[.int .i64 r21, .bool r22, .bool r23, .bool r24, .int .i64 r25, .int .i64 r26]) rfl rfl) _) rfl ?_
    refine WL_val gd0 ((o_extract (vs := [.agg #[.int .i64 r21, .bool r22, .bool r23, .bool r24, .int .i64 r25, .int .i64 r26], .int .i64 r27]) (r := .int .i64 r27) rfl rfl) _) rfl ?_
    have h := New.out h
    refine WL_val gd0 (o_alloc (z := .agg #[.int .i64 0, .bool false, .bool false, .bool false, .int .i64 0, .int .i64 0]) (cs := [.int .i64 0, .bool false, .bool false, .bool false, .int .i64 0, .int .i64 0]) Try.zeroValue23 rfl) rfl ?_
    generalize hp28 : fresh w20 = p28 at h ⊢
    generalize hw29 : push w20 23 [.int .i64 0, .bool false, .bool false, .bool false, .int .i64 0, .int .i64 0] = w29 at h ⊢
    try dsimp only at h
    obtain ⟨c31, h⟩ := h
    refine WL_act gd0 (o_storeAgg (vs := [.int .i64 r21, .bool r22, .bool r23, .bool r24, .int .i64 r25, .int .i64 r26]) Try.sizeOf23 rfl rfl rfl c31) ?_
    generalize hw30 : setAll w29 p28 0 [.int .i64 r21, .bool r22, .bool r23, .bool r24, .int .i64 r25, .int .i64 r26] = w30 at h ⊢
    try dsimp only at h
    refine WL_val gd0 ((o_assign (v := .int .i64 r27) rfl) _) rfl ?_
    refine WL_nil ?_
    refine nrm ?_
    refine WC_seq ?_
    refine WC_region ?_
    obtain ⟨x32, x33, x34, x35, x36, x37, hc38, h⟩ := h
    refine WL_val gd0 (o_loadAgg (vs := [.int .i64 x32, .bool x33, .bool x34, .bool x35, .int .i64 x36, .int .i64 x37]) Try.isAgg23 Try.sizeOf23 rfl hc38) rfl ?_
    obtain ⟨x39, x40, x41, x42, x43, x44, hc45, h⟩ := h
    refine WL_val gd0 (o_loadAgg (vs := [.int .i64 x39, .bool x40, .bool x41, .bool x42, .int .i64 x43, .int .i64 x44]) Try.isAgg23 Try.sizeOf23 rfl hc45) rfl ?_
    obtain ⟨eq46, c47, h⟩ := h
    refine WL_val gd0 ((o_eqlAgg (xs := #[.int .i64 x32, .bool x33, .bool x34, .bool x35, .int .i64 x36, .int .i64 x37]) (ys := #[.int .i64 x39, .bool x40, .bool x41, .bool x42, .int .i64 x43, .int .i64 x44]) Try.eqGuardType23 rfl rfl c47) _) rfl ?_
    refine WL_val gd0 ((o_move (v := .bool eq46) rfl) _) rfl ?_
    refine bsplit eq46 (fun hb48 => ?_) (fun hb48 => ?_)
    · rw [if_pos hb48] at h
      refine WL_val (gdY (b := eq46) 24 rfl rfl hb48) ((o_move (v := .int .i64 r15) rfl) _) rfl ?_
      refine WL_val (gdY (b := eq46) 24 rfl rfl hb48) ((o_move (v := .int .i64 r27) rfl) _) rfl ?_
      refine WL_val (gdY (b := eq46) 24 rfl rfl hb48) ((o_eql rfl rfl) _) rfl ?_
      refine WL_val gd0 ((o_pickT (v := .bool (decide (r15 = r27))) rfl hb48 rfl) _) rfl ?_
      refine WL_val gd0 ((o_move (v := .bool (decide (r15 = r27))) rfl) _) rfl ?_
      refine bsplit (decide (r15 = r27)) (fun hb49 => ?_) (fun hb49 => ?_)
      · rw [if_pos (of_decide_eq_true hb49)] at h
        refine WL_call (gdY (b := (decide (r15 = r27))) 29 rfl rfl hb49) (o_call Try.call11 argNil _) rfl (h.mono ?_)
        rintro _ w50 ⟨x51, rfl, h⟩
        refine WL_val gd0 ((o_pickT (v := .bool x51) rfl hb49 rfl) _) rfl ?_
        refine WL_val gd0 ((o_assign (v := .bool x51) rfl) _) rfl ?_
        refine WL_nil ?_
        refine nrm ?_
        refine WC_ret ?_
        refine rtE ?_
        exact gv1 rfl rfl h
      · rw [if_neg (of_decide_eq_false hb49)] at h
        refine WL_skip (gdN (b := (decide (r15 = r27))) 29 rfl rfl hb49) rfl ?_
        refine WL_val gd0 ((o_pickF (v := .bool false) rfl hb49 rfl) _) rfl ?_
        refine WL_val gd0 ((o_assign (v := .bool false) rfl) _) rfl ?_
        refine WL_nil ?_
        refine nrm ?_
        refine WC_ret ?_
        refine rtE ?_
        exact gv1 rfl rfl h
    · rw [if_neg (neT hb48)] at h
      refine WL_skip (gdN (b := eq46) 24 rfl rfl hb48) rfl ?_
      refine WL_skip (gdN (b := eq46) 24 rfl rfl hb48) rfl ?_
      refine WL_skip (gdN (b := eq46) 24 rfl rfl hb48) rfl ?_
      refine WL_val gd0 ((o_pickF (v := .bool false) rfl hb48 rfl) _) rfl ?_
      refine WL_val gd0 ((o_move (v := .bool false) rfl) _) rfl ?_
      refine WL_skip (gdN (b := false) 29 rfl rfl rfl) rfl ?_
      refine WL_val gd0 ((o_pickF (v := .bool false) rfl rfl rfl) _) rfl ?_
      refine WL_val gd0 ((o_assign (v := .bool false) rfl) _) rfl ?_
      refine WL_nil ?_
      refine nrm ?_
      refine WC_ret ?_
      refine rtE ?_
      exact gv1 rfl rfl h

/-- spacecraft spacecraftlaw15.ClcwBack -/
def F5 (c1 : Int) (c2 : Bool) (c3 : Bool) (c4 : Bool) (c5 : Int) (c6 : Int) (w7 : World) (k : Value → World → Prop) : Prop :=
  New w7 23 [.int .i64 c1, .bool c2, .bool c3, .bool c4, .int .i64 c5, .int .i64 c6] (fun p8 w9 => ∃ (x10 : Int) (x11 x12 x13 : Bool) (x14 x15 : Int), Cells w9 p8 0 [.int .i64 x10, .bool x11, .bool x12, .bool x13, .int .i64 x14, .int .i64 x15] ∧ Does Try.prog 7 #[.agg #[.int .i64 x10, .bool x11, .bool x12, .bool x13, .int .i64 x14, .int .i64 x15]] w9 (fun v w17 => ∃ (r_a18 : Option Addr) (r_n19 r_c20 : Nat) (r21 : Int), v = .tuple #[.slice r_a18 r_n19 r_c20, .int .i64 r21] ∧ if r21 ≠ 0 then
  if (r_n19 : Int) = 0 then
    ∃ (x24 : Int) (x25 x26 x27 : Bool) (x28 x29 : Int), Cells w17 p8 0 [.int .i64 x24, .bool x25, .bool x26, .bool x27, .int .i64 x28, .int .i64 x29] ∧ Does Try.prog 9 #[.agg #[.int .i64 x24, .bool x25, .bool x26, .bool x27, .int .i64 x28, .int .i64 x29]] w17 (fun v w31 => ∃ (x32 : Bool), v = .bool x32 ∧ if (!x32) = true then
      Does Try.prog 11 #[] w31 (fun v w34 => ∃ (x35 : Bool), v = .bool x35 ∧ k (.bool x35) w34)
    else
      k (.bool false) w31)
  else
    k (.bool false) w17
else
  Does Try.prog 12 #[.slice r_a18 r_n19 r_c20] w17 (fun v w36 => ∃ (r37 : Int) (r38 r39 r40 : Bool) (r41 r42 r43 : Int), v = .tuple #[.agg #[.int .i64 r37, .bool r38, .bool r39, .bool r40, .int .i64 r41, .int .i64 r42], .int .i64 r43] ∧ New w36 23 [.int .i64 0, .bool false, .bool false, .bool false, .int .i64 0, .int .i64 0] (fun p44 w45 => PutAll w45 p44 [.int .i64 r37, .bool r38, .bool r39, .bool r40, .int .i64 r41, .int .i64 r42] (fun w46 => if (r_n19 : Int) = 4 then
    if r43 = 0 then
      ∃ (x50 : Int) (x51 x52 x53 : Bool) (x54 x55 : Int), Cells w46 p44 0 [.int .i64 x50, .bool x51, .bool x52, .bool x53, .int .i64 x54, .int .i64 x55] ∧ ∃ (x57 : Int) (x58 x59 x60 : Bool) (x61 x62 : Int), Cells w46 p8 0 [.int .i64 x57, .bool x58, .bool x59, .bool x60, .int .i64 x61, .int .i64 x62] ∧ ∃ (eq64 : Bool), (∀ w d, (Op.equalIn (d + 5) 23 (.agg #[.int .i64 x50, .bool x51, .bool x52, .bool x53, .int .i64 x54, .int .i64 x55]) (.agg #[.int .i64 x57, .bool x58, .bool x59, .bool x60, .int .i64 x61, .int .i64 x62])).run Try.prog w = .ok eq64 w) ∧ if eq64 = true then
        ∃ (x67 : Int) (x68 x69 x70 : Bool) (x71 x72 : Int), Cells w46 p8 0 [.int .i64 x67, .bool x68, .bool x69, .bool x70, .int .i64 x71, .int .i64 x72] ∧ Does Try.prog 9 #[.agg #[.int .i64 x67, .bool x68, .bool x69, .bool x70, .int .i64 x71, .int .i64 x72]] w46 (fun v w74 => ∃ (x75 : Bool), v = .bool x75 ∧ if x75 = true then
          Does Try.prog 11 #[] w74 (fun v w77 => ∃ (x78 : Bool), v = .bool x78 ∧ k (.bool x78) w77)
        else
          k (.bool false) w74)
      else
        k (.bool false) w46
    else
      k (.bool false) w46
  else
    k (.bool false) w46)))))
set_option maxRecDepth 100000 in
set_option maxHeartbeats 2000000 in
theorem w5 (c1 : Int) (c2 : Bool) (c3 : Bool) (c4 : Bool) (c5 : Int) (c6 : Int) (w7 : World) (k : Value → World → Prop) (h : F5 c1 c2 c3 c4 c5 c6 w7 k) : Does Try.prog 5 #[.agg #[.int .i64 c1, .bool c2, .bool c3, .bool c4, .int .i64 c5, .int .i64 c6]] w7 k := by
  refine enter 49 Try.func5 rfl rfl rfl ?_
  intro ρ hρ
  have e0 := hρ 0 _ rfl
  unfold F5 at h
  refine WC_seq ?_
  refine WC_region ?_
  have h := New.out h
  refine WL_val gd0 (o_box (v := .agg #[.int .i64 c1, .bool c2, .bool c3, .bool c4, .int .i64 c5, .int .i64 c6]) (cs := [.int .i64 c1, .bool c2, .bool c3, .bool c4, .int .i64 c5, .int .i64 c6]) (by exact e0) rfl) rfl ?_
  generalize hp8 : fresh w7 = p8 at h ⊢
  generalize hw9 : push w7 23 [.int .i64 c1, .bool c2, .bool c3, .bool c4, .int .i64 c5, .int .i64 c6] = w9 at h ⊢
  try dsimp only at h
  refine WL_val gd0 ((o_assign (v := .bool false) rfl) _) rfl ?_
  refine WL_nil ?_
  refine nrm ?_
  refine WC_seq ?_
  refine WC_region ?_
  obtain ⟨x10, x11, x12, x13, x14, x15, hc16, h⟩ := h
  refine WL_val gd0 (o_loadAgg (vs := [.int .i64 x10, .bool x11, .bool x12, .bool x13, .int .i64 x14, .int .i64 x15]) Try.isAgg23 Try.sizeOf23 rfl hc16) rfl ?_
  refine WL_call gd0 (o_call Try.call7 (argCons rfl argNil) _) rfl (h.mono ?_)
  rintro _ w17 ⟨r_a18, r_n19, r_c20, r21, rfl, h⟩
  refine WL_val gd0 ((o_move (v := .tuple #[.slice r_a18 r_n19 r_c20, .int .i64 r21]) rfl) _) rfl ?_
  refine WL_val gd0 ((o_extract (vs := [.slice r_a18 r_n19 r_c20, .int .i64 r21]) (r := .slice r_a18 r_n19 r_c20) rfl rfl) _) rfl ?_
  refine WL_val gd0 ((o_extract (vs := [.slice r_a18 r_n19 r_c20, .int .i64 r21]) (r := .int .i64 r21) rfl rfl) _) rfl ?_
  refine WL_val gd0 ((o_assign (v := .slice r_a18 r_n19 r_c20) rfl) _) rfl ?_
  refine WL_val gd0 ((o_assign (v := .int .i64 r21) rfl) _) rfl ?_
  refine WL_nil ?_
  refine nrm ?_
  refine WC_seq ?_
  refine WC_seq ?_
  refine WC_region ?_
  refine WL_val gd0 ((o_move (v := .int .i64 r21) rfl) _) rfl ?_
  refine WL_val gd0 ((o_neq rfl rfl) _) rfl ?_
  refine WL_nil ?_
  refine nrm ?_
  refine WC_cond (t := (decide (r21 ≠ 0))) rfl (fun hb22 => ?_) (fun hb22 => ?_)
  · rw [if_pos (of_decide_eq_true hb22)] at h
    refine WC_seq ?_
    refine WC_region ?_
    refine WL_val gd0 ((o_move (v := .slice r_a18 r_n19 r_c20) rfl) _) rfl ?_
    refine WL_val gd0 ((o_len Try.underlying24 rfl) _) rfl ?_
    refine WL_val gd0 ((o_eql rfl rfl) _) rfl ?_
    refine WL_val gd0 ((o_move (v := .bool (decide ((r_n19 : Int) = 0))) rfl) _) rfl ?_
    refine bsplit (decide ((r_n19 : Int) = 0)) (fun hb23 => ?_) (fun hb23 => ?_)
    · rw [if_pos (of_decide_eq_true hb23)] at h
      obtain ⟨x24, x25, x26, x27, x28, x29, hc30, h⟩ := h
      refine WL_val (gdY (b := (decide ((r_n19 : Int) = 0))) 17 rfl rfl hb23) (o_loadAgg (vs := [.int .i64 x24, .bool x25, .bool x26, .bool x27, .int .i64 x28, .int .i64 x29]) Try.isAgg23 Try.sizeOf23 rfl hc30) rfl ?_
      refine WL_call (gdY (b := (decide ((r_n19 : Int) = 0))) 17 rfl rfl hb23) (o_call Try.call9 (argCons rfl argNil) _) rfl (h.mono ?_)
      rintro _ w31 ⟨x32, rfl, h⟩
      refine WL_val (gdY (b := (decide ((r_n19 : Int) = 0))) 17 rfl rfl hb23) ((o_not rfl) _) rfl ?_
      refine WL_val gd0 ((o_pickT (v := .bool (!x32)) rfl hb23 rfl) _) rfl ?_
      refine WL_val gd0 ((o_move (v := .bool (!x32)) rfl) _) rfl ?_
      refine bsplit (!x32) (fun hb33 => ?_) (fun hb33 => ?_)
      · rw [if_pos hb33] at h
        refine WL_call (gdY (b := (!x32)) 22 rfl rfl hb33) (o_call Try.call11 argNil _) rfl (h.mono ?_)
        rintro _ w34 ⟨x35, rfl, h⟩
        refine WL_val gd0 ((o_pickT (v := .bool x35) rfl hb33 rfl) _) rfl ?_
        refine WL_val gd0 ((o_assign (v := .bool x35) rfl) _) rfl ?_
        refine WL_nil ?_
        refine nrm ?_
        refine WC_ret ?_
        refine rtT ?_
        refine rtE ?_
        exact gv1 rfl rfl h
      · rw [if_neg (neT hb33)] at h
        refine WL_skip (gdN (b := (!x32)) 22 rfl rfl hb33) rfl ?_
        refine WL_val gd0 ((o_pickF (v := .bool false) rfl hb33 rfl) _) rfl ?_
        refine WL_val gd0 ((o_assign (v := .bool false) rfl) _) rfl ?_
        refine WL_nil ?_
        refine nrm ?_
        refine WC_ret ?_
        refine rtT ?_
        refine rtE ?_
        exact gv1 rfl rfl h
    · rw [if_neg (of_decide_eq_false hb23)] at h
      refine WL_skip (gdN (b := (decide ((r_n19 : Int) = 0))) 17 rfl rfl hb23) rfl ?_
      refine WL_skip (gdN (b := (decide ((r_n19 : Int) = 0))) 17 rfl rfl hb23) rfl ?_
      refine WL_skip (gdN (b := (decide ((r_n19 : Int) = 0))) 17 rfl rfl hb23) rfl ?_
      refine WL_val gd0 ((o_pickF (v := .bool false) rfl hb23 rfl) _) rfl ?_
      refine WL_val gd0 ((o_move (v := .bool false) rfl) _) rfl ?_
      refine WL_skip (gdN (b := false) 22 rfl rfl rfl) rfl ?_
      refine WL_val gd0 ((o_pickF (v := .bool false) rfl rfl rfl) _) rfl ?_
      refine WL_val gd0 ((o_assign (v := .bool false) rfl) _) rfl ?_
      refine WL_nil ?_
      refine nrm ?_
      refine WC_ret ?_
      refine rtT ?_
      refine rtE ?_
      exact gv1 rfl rfl h
  · rw [if_neg (of_decide_eq_false hb22)] at h
    refine WC_skip ?_
    refine nrm ?_
    refine WC_seq ?_
    refine WC_region ?_
    refine WL_val gd0 ((o_move (v := .slice r_a18 r_n19 r_c20) rfl) _) rfl ?_
    refine WL_call gd0 (o_call Try.call12 (argCons rfl argNil) _) rfl (h.mono ?_)
    rintro _ w36 ⟨r37, r38, r39, r40, r41, r42, r43, rfl, h⟩
    refine WL_val gd0 ((o_move (v := .tuple #[.agg #[.int .i64 r37, .bool r38, .bool r39, .bool r40, .int .i64 r41, .int .i64 r42], .int .i64 r43]) rfl) _) rfl ?_
    refine WL_val gd0 ((o_extract (vs := [.agg #[.int .i64 r37, .bool r38, .bool r39, .bool r40, .int .i64 r41, .int .i64 r42], .int .i64 r43]) (r := .agg #[.int .i64 r37, .bool r38, .bool r39, .bool r40, .int .i64 r41, .int .i64 r42]) rfl rfl) _) rfl ?_
    refine WL_val gd0 ((o_extract (vs := [.agg #[.int .i64 r37, .bool r38, .bool r39, .bool r40, .int .i64 r41, .int .i64 r42], .int .i64 r43]) (r := .int .i64 r43) rfl rfl) _) rfl ?_
    have h := New.out h
    refine WL_val gd0 (o_alloc (z := .agg #[.int .i64 0, .bool false, .bool false, .bool false, .int .i64 0, .int .i64 0]) (cs := [.int .i64 0, .bool false, .bool false, .bool false, .int .i64 0, .int .i64 0]) Try.zeroValue23 rfl) rfl ?_
    generalize hp44 : fresh w36 = p44 at h ⊢
    generalize hw45 : push w36 23 [.int .i64 0, .bool false, .bool false, .bool false, .int .i64 0, .int .i64 0] = w45 at h ⊢
    try dsimp only at h
    obtain ⟨c47, h⟩ := h
    refine WL_act gd0 (o_storeAgg (vs := [.int .i64 r37, .bool r38, .bool r39, .bool r40, .int .i64 r41, .int .i64 r42]) Try.sizeOf23 rfl rfl rfl c47) ?_
    generalize hw46 : setAll w45 p44 0 [.int .i64 r37, .bool r38, .bool r39, .bool r40, .int .i64 r41, .int .i64 r42] = w46 at h ⊢
    try dsimp only at h
    refine WL_val gd0 ((o_assign (v := .int .i64 r43) rfl) _) rfl ?_
    refine WL_nil ?_
    refine nrm ?_
    refine WC_seq ?_
    refine WC_region ?_
    refine WL_val gd0 ((o_move (v := .slice r_a18 r_n19 r_c20) rfl) _) rfl ?_
    refine WL_val gd0 ((o_len Try.underlying24 rfl) _) rfl ?_
    refine WL_val gd0 ((o_eql rfl rfl) _) rfl ?_
    refine WL_val gd0 ((o_move (v := .bool (decide ((r_n19 : Int) = 4))) rfl) _) rfl ?_
    refine bsplit (decide ((r_n19 : Int) = 4)) (fun hb48 => ?_) (fun hb48 => ?_)
    · rw [if_pos (of_decide_eq_true hb48)] at h
      refine WL_val (gdY (b := (decide ((r_n19 : Int) = 4))) 33 rfl rfl hb48) ((o_move (v := .int .i64 r43) rfl) _) rfl ?_
      refine WL_val (gdY (b := (decide ((r_n19 : Int) = 4))) 33 rfl rfl hb48) ((o_eql rfl rfl) _) rfl ?_
      refine WL_val gd0 ((o_pickT (v := .bool (decide (r43 = 0))) rfl hb48 rfl) _) rfl ?_
      refine WL_val gd0 ((o_move (v := .bool (decide (r43 = 0))) rfl) _) rfl ?_
      refine bsplit (decide (r43 = 0)) (fun hb49 => ?_) (fun hb49 => ?_)
      · rw [if_pos (of_decide_eq_true hb49)] at h
        obtain ⟨x50, x51, x52, x53, x54, x55, hc56, h⟩ := h
        refine WL_val (gdY (b := (decide (r43 = 0))) 37 rfl rfl hb49) (o_loadAgg (vs := [.int .i64 x50, .bool x51, .bool x52, .bool x53, .int .i64 x54, .int .i64 x55]) Try.isAgg23 Try.sizeOf23 rfl hc56) rfl ?_
        obtain ⟨x57, x58, x59, x60, x61, x62, hc63, h⟩ := h
        refine WL_val (gdY (b := (decide (r43 = 0))) 37 rfl rfl hb49) (o_loadAgg (vs := [.int .i64 x57, .bool x58, .bool x59, .bool x60, .int .i64 x61, .int .i64 x62]) Try.isAgg23 Try.sizeOf23 rfl hc63) rfl ?_
        obtain ⟨eq64, c65, h⟩ := h
        refine WL_val (gdY (b := (decide (r43 = 0))) 37 rfl rfl hb49) ((o_eqlAgg (xs := #[.int .i64 x50, .bool x51, .bool x52, .bool x53, .int .i64 x54, .int .i64 x55]) (ys := #[.int .i64 x57, .bool x58, .bool x59, .bool x60, .int .i64 x61, .int .i64 x62]) Try.eqGuardType23 rfl rfl c65) _) rfl ?_
        refine WL_val gd0 ((o_pickT (v := .bool eq64) rfl hb49 rfl) _) rfl ?_
        refine WL_val gd0 ((o_move (v := .bool eq64) rfl) _) rfl ?_
        refine bsplit eq64 (fun hb66 => ?_) (fun hb66 => ?_)
        · rw [if_pos hb66] at h
          obtain ⟨x67, x68, x69, x70, x71, x72, hc73, h⟩ := h
          refine WL_val (gdY (b := eq64) 42 rfl rfl hb66) (o_loadAgg (vs := [.int .i64 x67, .bool x68, .bool x69, .bool x70, .int .i64 x71, .int .i64 x72]) Try.isAgg23 Try.sizeOf23 rfl hc73) rfl ?_
          refine WL_call (gdY (b := eq64) 42 rfl rfl hb66) (o_call Try.call9 (argCons rfl argNil) _) rfl (h.mono ?_)
          rintro _ w74 ⟨x75, rfl, h⟩
          refine WL_val gd0 ((o_pickT (v := .bool x75) rfl hb66 rfl) _) rfl ?_
          refine WL_val gd0 ((o_move (v := .bool x75) rfl) _) rfl ?_
          refine bsplit x75 (fun hb76 => ?_) (fun hb76 => ?_)
          · rw [if_pos hb76] at h
            refine WL_call (gdY (b := x75) 46 rfl rfl hb76) (o_call Try.call11 argNil _) rfl (h.mono ?_)
            rintro _ w77 ⟨x78, rfl, h⟩
            refine WL_val gd0 ((o_pickT (v := .bool x78) rfl hb76 rfl) _) rfl ?_
            refine WL_val gd0 ((o_assign (v := .bool x78) rfl) _) rfl ?_
            refine WL_nil ?_
            refine nrm ?_
            refine WC_ret ?_
            refine rtE ?_
            exact gv1 rfl rfl h
          · rw [if_neg (neT hb76)] at h
            refine WL_skip (gdN (b := x75) 46 rfl rfl hb76) rfl ?_
            refine WL_val gd0 ((o_pickF (v := .bool false) rfl hb76 rfl) _) rfl ?_
            refine WL_val gd0 ((o_assign (v := .bool false) rfl) _) rfl ?_
            refine WL_nil ?_
            refine nrm ?_
            refine WC_ret ?_
            refine rtE ?_
            exact gv1 rfl rfl h
        · rw [if_neg (neT hb66)] at h
          refine WL_skip (gdN (b := eq64) 42 rfl rfl hb66) rfl ?_
          refine WL_skip (gdN (b := eq64) 42 rfl rfl hb66) rfl ?_
          refine WL_val gd0 ((o_pickF (v := .bool false) rfl hb66 rfl) _) rfl ?_
          refine WL_val gd0 ((o_move (v := .bool false) rfl) _) rfl ?_
          refine WL_skip (gdN (b := false) 46 rfl rfl rfl) rfl ?_
          refine WL_val gd0 ((o_pickF (v := .bool false) rfl rfl rfl) _) rfl ?_
          refine WL_val gd0 ((o_assign (v := .bool false) rfl) _) rfl ?_
          refine WL_nil ?_
          refine nrm ?_
          refine WC_ret ?_
          refine rtE ?_
          exact gv1 rfl rfl h
      · rw [if_neg (of_decide_eq_false hb49)] at h
        refine WL_skip (gdN (b := (decide (r43 = 0))) 37 rfl rfl hb49) rfl ?_
        refine WL_skip (gdN (b := (decide (r43 = 0))) 37 rfl rfl hb49) rfl ?_
        refine WL_skip (gdN (b := (decide (r43 = 0))) 37 rfl rfl hb49) rfl ?_
        refine WL_val gd0 ((o_pickF (v := .bool false) rfl hb49 rfl) _) rfl ?_
        refine WL_val gd0 ((o_move (v := .bool false) rfl) _) rfl ?_
        refine WL_skip (gdN (b := false) 42 rfl rfl rfl) rfl ?_
        refine WL_skip (gdN (b := false) 42 rfl rfl rfl) rfl ?_
        refine WL_val gd0 ((o_pickF (v := .bool false) rfl rfl rfl) _) rfl ?_
        refine WL_val gd0 ((o_move (v := .bool false) rfl) _) rfl ?_
        refine WL_skip (gdN (b := false) 46 rfl rfl rfl) rfl ?_
        refine WL_val gd0 ((o_pickF (v := .bool false) rfl rfl rfl) _) rfl ?_
        refine WL_val gd0 ((o_assign (v := .bool false) rfl) _) rfl ?_
        refine WL_nil ?_
        refine nrm ?_
        refine WC_ret ?_
        refine rtE ?_
        exact gv1 rfl rfl h
    · rw [if_neg (of_decide_eq_false hb48)] at h
      refine WL_skip (gdN (b := (decide ((r_n19 : Int) = 4))) 33 rfl rfl hb48) rfl ?_
      refine WL_skip (gdN (b := (decide ((r_n19 : Int) = 4))) 33 rfl rfl hb48) rfl ?_
      refine WL_val gd0 ((o_pickF (v := .bool false) rfl hb48 rfl) _) rfl ?_
      refine WL_val gd0 ((o_move (v := .bool false) rfl) _) rfl ?_
      refine WL_skip (gdN (b := false) 37 rfl rfl rfl) rfl ?_
      refine WL_skip (gdN (b := false) 37 rfl rfl rfl) rfl ?_
      refine WL_skip (gdN (b := false) 37 rfl rfl rfl) rfl ?_
      refine WL_val gd0 ((o_pickF (v := .bool false) rfl rfl rfl) _) rfl ?_
      refine WL_val gd0 ((o_move (v := .bool false) rfl) _) rfl ?_
      refine WL_skip (gdN (b := false) 42 rfl rfl rfl) rfl ?_
      refine WL_skip (gdN (b := false) 42 rfl rfl rfl) rfl ?_
      refine WL_val gd0 ((o_pickF (v := .bool false) rfl rfl rfl) _) rfl ?_
      refine WL_val gd0 ((o_move (v := .bool false) rfl) _) rfl ?_
      refine WL_skip (gdN (b := false) 46 rfl rfl rfl) rfl ?_
      refine WL_val gd0 ((o_pickF (v := .bool false) rfl rfl rfl) _) rfl ?_
      refine WL_val gd0 ((o_assign (v := .bool false) rfl) _) rfl ?_
      refine WL_nil ?_
      refine nrm ?_
      refine WC_ret ?_
      refine rtE ?_
      exact gv1 rfl rfl h

/-- spacecraft spacecraftlaw15.ClcwOnly -/
def F6 (b_a1 : Option Addr) (b_n2 : Nat) (b_c3 : Nat) (w4 : World) (k : Value → World → Prop) : Prop :=
  if 100 < (b_n2 : Int) then
  Does Try.prog 11 #[] w4 (fun v w6 => ∃ (t7 : Bool), v = .bool t7 ∧ k (.bool t7) w6)
else
  Does Try.prog 12 #[.slice b_a1 b_n2 b_c3] w4 (fun v w8 => ∃ (r9 : Int) (r10 r11 r12 : Bool) (r13 r14 r15 : Int), v = .tuple #[.agg #[.int .i64 r9, .bool r10, .bool r11, .bool r12, .int .i64 r13, .int .i64 r14], .int .i64 r15] ∧ New w8 23 [.int .i64 0, .bool false, .bool false, .bool false, .int .i64 0, .int .i64 0] (fun p16 w17 => PutAll w17 p16 [.int .i64 r9, .bool r10, .bool r11, .bool r12, .int .i64 r13, .int .i64 r14] (fun w18 => if r15 ≠ 0 then
    ∃ (x21 : Int) (x22 x23 x24 : Bool) (x25 x26 : Int), Cells w18 p16 0 [.int .i64 x21, .bool x22, .bool x23, .bool x24, .int .i64 x25, .int .i64 x26] ∧ ∃ (eq28 : Bool), (∀ w d, (Op.equalIn (d + 5) 23 (.agg #[.int .i64 x21, .bool x22, .bool x23, .bool x24, .int .i64 x25, .int .i64 x26]) (.agg #[.int .i64 0, .bool false, .bool false, .bool false, .int .i64 0, .int .i64 0])).run Try.prog w = .ok eq28 w) ∧ if eq28 = true then
      Does Try.prog 11 #[] w18 (fun v w31 => ∃ (x32 : Bool), v = .bool x32 ∧ k (.bool x32) w31)
    else
      k (.bool false) w18
  else
    ∃ (x33 : Int) (x34 x35 x36 : Bool) (x37 x38 : Int), Cells w18 p16 0 [.int .i64 x33, .bool x34, .bool x35, .bool x36, .int .i64 x37, .int .i64 x38] ∧ Does Try.prog 7 #[.agg #[.int .i64 x33, .bool x34, .bool x35, .bool x36, .int .i64 x37, .int .i64 x38]] w18 (fun v w40 => ∃ (r_a41 : Option Addr) (r_n42 r_c43 : Nat) (r44 : Int), v = .tuple #[.slice r_a41 r_n42 r_c43, .int .i64 r44] ∧ ∃ (x45 : Int) (x46 x47 x48 : Bool) (x49 x50 : Int), Cells w40 p16 0 [.int .i64 x45, .bool x46, .bool x47, .bool x48, .int .i64 x49, .int .i64 x50] ∧ Does Try.prog 9 #[.agg #[.int .i64 x45, .bool x46, .bool x47, .bool x48, .int .i64 x49, .int .i64 x50]] w40 (fun v w52 => ∃ (x53 : Bool), v = .bool x53 ∧ if x53 = true then
      if r44 = 0 then
        ∃ (s56 : ByteArray), (Conv.bytesToString (.slice r_a41 r_n42 r_c43)).run Try.prog w52 = .ok (.string s56) w52 ∧ ∃ (s58 : ByteArray), (Conv.bytesToString (.slice b_a1 b_n2 b_c3)).run Try.prog w52 = .ok (.string s58) w52 ∧ if (s56.toList == s58.toList) = true then
          Does Try.prog 11 #[] w52 (fun v w61 => ∃ (x62 : Bool), v = .bool x62 ∧ k (.bool x62) w61)
        else
          k (.bool false) w52
      else
        k (.bool false) w52
    else
      k (.bool false) w52)))))
set_option maxRecDepth 100000 in
set_option maxHeartbeats 2000000 in
theorem w6 (b_a1 : Option Addr) (b_n2 : Nat) (b_c3 : Nat) (w4 : World) (k : Value → World → Prop) (h : F6 b_a1 b_n2 b_c3 w4 k) : Does Try.prog 6 #[.slice b_a1 b_n2 b_c3] w4 k := by
  refine enter 45 Try.func6 rfl rfl rfl ?_
  intro ρ hρ
  have e0 := hρ 0 _ rfl
  unfold F6 at h
  refine WC_seq ?_
  refine WC_region ?_
  refine WL_val gd0 ((o_assign (v := .bool false) rfl) _) rfl ?_
  refine WL_nil ?_
  refine nrm ?_
  refine WC_seq ?_
  refine WC_seq ?_
  refine WC_region ?_
  refine WL_val gd0 ((o_move (v := .slice b_a1 b_n2 b_c3) (by exact e0)) _) rfl ?_
  refine WL_val gd0 ((o_len Try.underlying24 rfl) _) rfl ?_
  refine WL_val gd0 ((o_gtr rfl rfl) _) rfl ?_
  refine WL_nil ?_
  refine nrm ?_
  refine WC_cond (t := (decide (100 < (b_n2 : Int)))) rfl (fun hb5 => ?_) (fun hb5 => ?_)
  · rw [if_pos (of_decide_eq_true hb5)] at h
    refine WC_seq ?_
    refine WC_region ?_
    refine WL_call gd0 (o_call Try.call11 argNil _) rfl (h.mono ?_)
    rintro _ w6 ⟨t7, rfl, h⟩
    refine WL_val gd0 ((o_assign (v := .bool t7) rfl) _) rfl ?_
    refine WL_nil ?_
    refine nrm ?_
    refine WC_ret ?_
    refine rtT ?_
    refine rtE ?_
    exact gv1 rfl rfl h
  · rw [if_neg (of_decide_eq_false hb5)] at h
    refine WC_skip ?_
    refine nrm ?_
    refine WC_seq ?_
    refine WC_region ?_
    refine WL_val gd0 ((o_move (v := .slice b_a1 b_n2 b_c3) (by exact e0)) _) rfl ?_
    refine WL_call gd0 (o_call Try.call12 (argCons rfl argNil) _) rfl (h.mono ?_)
    rintro _ w8 ⟨r9, r10, r11, r12, r13, r14, r15, rfl, h⟩
    refine WL_val gd0 ((o_move (v := .tuple #[.agg #[.int .i64 r9, .bool r10, .bool r11, .bool r12, .int .i64 r13, .int .i64 r14], .int .i64 r15]) rfl) _) rfl ?_
    refine WL_val gd0 ((o_extract (vs := [.agg #[.int .i64 r9, .bool r10, .bool r11, .bool r12, .int .i64 r13, .int .i64 r14], .int .i64 r15]) (r := .agg #[.int .i64 r9, .bool r10, .bool r11, .bool r12, .int .i64 r13, .int .i64 r14]) rfl rfl) _) rfl ?_
    refine WL_val gd0 ((o_extract (vs := [.agg #[.int .i64 r9, .bool r10, .bool r11, .bool r12, .int .i64 r13, .int .i64 r14], .int .i64 r15]) (r := .int .i64 r15) rfl rfl) _) rfl ?_
    have h := New.out h
    refine WL_val gd0 (o_alloc (z := .agg #[.int .i64 0, .bool false, .bool false, .bool false, .int .i64 0, .int .i64 0]) (cs := [.int .i64 0, .bool false, .bool false, .bool false, .int .i64 0, .int .i64 0]) Try.zeroValue23 rfl) rfl ?_
    generalize hp16 : fresh w8 = p16 at h ⊢
    generalize hw17 : push w8 23 [.int .i64 0, .bool false, .bool false, .bool false, .int .i64 0, .int .i64 0] = w17 at h ⊢
    try dsimp only at h
    obtain ⟨c19, h⟩ := h
    refine WL_act gd0 (o_storeAgg (vs := [.int .i64 r9, .bool r10, .bool r11, .bool r12, .int .i64 r13, .int .i64 r14]) Try.sizeOf23 rfl rfl rfl c19) ?_
    generalize hw18 : setAll w17 p16 0 [.int .i64 r9, .bool r10, .bool r11, .bool r12, .int .i64 r13, .int .i64 r14] = w18 at h ⊢
    try dsimp only at h
    refine WL_val gd0 ((o_assign (v := .int .i64 r15) rfl) _) rfl ?_
    refine WL_nil ?_
    refine nrm ?_
    refine WC_seq ?_
    refine WC_seq ?_
    refine WC_region ?_
    refine WL_val gd0 ((o_move (v := .int .i64 r15) rfl) _) rfl ?_
    refine WL_val gd0 ((o_neq rfl rfl) _) rfl ?_
    refine WL_nil ?_
    refine nrm ?_
    refine WC_cond (t := (decide (r15 ≠ 0))) rfl (fun hb20 => ?_) (fun hb20 => ?_)
    · rw [if_pos (of_decide_eq_true hb20)] at h
      refine WC_seq ?_
      refine WC_region ?_
      obtain ⟨x21, x22, x23, x24, x25, x26, hc27, h⟩ := h
      refine WL_val gd0 (o_loadAgg (vs := [.int .i64 x21, .bool x22, .bool x23, .bool x24, .int .i64 x25, .int .i64 x26]) Try.isAgg23 Try.sizeOf23 rfl hc27) rfl ?_
      refine WL_val gd0 ((o_build (ps := []) (v := .agg #[.int .i64 0, .bool false, .bool false, .bool false, .int .i64 0, .int .i64 0]) partNil (fun w => by kernel_rfl)) _) rfl ?_
      obtain ⟨eq28, c29, h⟩ := h
      refine WL_val gd0 ((o_eqlAgg (xs := #[.int .i64 x21, .bool x22, .bool x23, .bool x24, .int .i64 x25, .int .i64 x26]) (ys := #[.int .i64 0, .bool false, .bool false, .bool false, .int .i64 0, .int .i64 0]) Try.eqGuardType23 rfl rfl c29) _) rfl ?_
      refine WL_val gd0 ((o_move (v := .bool eq28) rfl) _) rfl ?_
      refine bsplit eq28 (fun hb30 => ?_) (fun hb30 => ?_)
      · rw [if_pos hb30] at h
        refine WL_call (gdY (b := eq28) 21 rfl rfl hb30) (o_call Try.call11 argNil _) rfl (h.mono ?_)
        rintro _ w31 ⟨x32, rfl, h⟩
        refine WL_val gd0 ((o_pickT (v := .bool x32) rfl hb30 rfl) _) rfl ?_
        refine WL_val gd0 ((o_assign (v := .bool x32) rfl) _) rfl ?_
        refine WL_nil ?_
        refine nrm ?_
        refine WC_ret ?_
        refine rtT ?_
        refine rtE ?_
        exact gv1 rfl rfl h
      · rw [if_neg (neT hb30)] at h
        refine WL_skip (gdN (b := eq28) 21 rfl rfl hb30) rfl ?_
        refine WL_val gd0 ((o_pickF (v := .bool false) rfl hb30 rfl) _) rfl ?_
        refine WL_val gd0 ((o_assign (v := .bool false) rfl) _) rfl ?_
        refine WL_nil ?_
        refine nrm ?_
        refine WC_ret ?_
        refine rtT ?_
        refine rtE ?_
        exact gv1 rfl rfl h
    · rw [if_neg (of_decide_eq_false hb20)] at h
      refine WC_skip ?_
      refine nrm ?_
      refine WC_seq ?_
      refine WC_region ?_
      obtain ⟨x33, x34, x35, x36, x37, x38, hc39, h⟩ := h
      refine WL_val gd0 (o_loadAgg (vs := [.int .i64 x33, .bool x34, .bool x35, .bool x36, .int .i64 x37, .int .i64 x38]) Try.isAgg23 Try.sizeOf23 rfl hc39) rfl ?_
      refine WL_call gd0 (o_call Try.call7 (argCons rfl argNil) _) rfl (h.mono ?_)
      rintro _ w40 ⟨r_a41, r_n42, r_c43, r44, rfl, h⟩
      refine WL_val gd0 ((o_move (v := .tuple #[.slice r_a41 r_n42 r_c43, .int .i64 r44]) rfl) _) rfl ?_
      refine WL_val gd0 ((o_extract (vs := [.slice r_a41 r_n42 r_c43, .int .i64 r44]) (r := .slice r_a41 r_n42 r_c43) rfl rfl) _) rfl ?_
      refine WL_val gd0 ((o_extract (vs := [.slice r_a41 r_n42 r_c43, .int .i64 r44]) (r := .int .i64 r44) rfl rfl) _) rfl ?_
      refine WL_val gd0 ((o_assign (v := .slice r_a41 r_n42 r_c43) rfl) _) rfl ?_
      refine WL_val gd0 ((o_assign (v := .int .i64 r44) rfl) _) rfl ?_
      refine WL_nil ?_
      refine nrm ?_
      refine WC_seq ?_
      refine WC_region ?_
      obtain ⟨x45, x46, x47, x48, x49, x50, hc51, h⟩ := h
      refine WL_val gd0 (o_loadAgg (vs := [.int .i64 x45, .bool x46, .bool x47, .bool x48, .int .i64 x49, .int .i64 x50]) Try.isAgg23 Try.sizeOf23 rfl hc51) rfl ?_
      refine WL_call gd0 (o_call Try.call9 (argCons rfl argNil) _) rfl (h.mono ?_)
      rintro _ w52 ⟨x53, rfl, h⟩
      refine WL_val gd0 ((o_move (v := .bool x53) rfl) _) rfl ?_
      refine bsplit x53 (fun hb54 => ?_) (fun hb54 => ?_)
      · rw [if_pos hb54] at h
        refine WL_val (gdY (b := x53) 31 rfl rfl hb54) ((o_move (v := .int .i64 r44) rfl) _) rfl ?_
        refine WL_val (gdY (b := x53) 31 rfl rfl hb54) ((o_eql rfl rfl) _) rfl ?_
        refine WL_val gd0 ((o_pickT (v := .bool (decide (r44 = 0))) rfl hb54 rfl) _) rfl ?_
        refine WL_val gd0 ((o_move (v := .bool (decide (r44 = 0))) rfl) _) rfl ?_
        refine bsplit (decide (r44 = 0)) (fun hb55 => ?_) (fun hb55 => ?_)
        · rw [if_pos (of_decide_eq_true hb55)] at h
          refine WL_val (gdY (b := (decide (r44 = 0))) 35 rfl rfl hb55) ((o_move (v := .slice r_a41 r_n42 r_c43) rfl) _) rfl ?_
          obtain ⟨s56, r57, h⟩ := h
          refine WL_val (gdY (b := (decide (r44 = 0))) 35 rfl rfl hb55) (o_toStr Try.underlying24 Try.underlying5 Try.underlying9 rfl r57) rfl ?_
          refine WL_val (gdY (b := (decide (r44 = 0))) 35 rfl rfl hb55) ((o_move (v := .slice b_a1 b_n2 b_c3) (by exact e0)) _) rfl ?_
          obtain ⟨s58, r59, h⟩ := h
          refine WL_val (gdY (b := (decide (r44 = 0))) 35 rfl rfl hb55) (o_toStr Try.underlying24 Try.underlying5 Try.underlying9 rfl r59) rfl ?_
          refine WL_val (gdY (b := (decide (r44 = 0))) 35 rfl rfl hb55) ((o_eqlStr rfl rfl) _) rfl ?_
          refine WL_val gd0 ((o_pickT (v := .bool (s56.toList == s58.toList)) rfl hb55 rfl) _) rfl ?_
          refine WL_val gd0 ((o_move (v := .bool (s56.toList == s58.toList)) rfl) _) rfl ?_
          refine bsplit (s56.toList == s58.toList) (fun hb60 => ?_) (fun hb60 => ?_)
          · rw [if_pos hb60] at h
            refine WL_call (gdY (b := (s56.toList == s58.toList)) 42 rfl rfl hb60) (o_call Try.call11 argNil _) rfl (h.mono ?_)
            rintro _ w61 ⟨x62, rfl, h⟩
            refine WL_val gd0 ((o_pickT (v := .bool x62) rfl hb60 rfl) _) rfl ?_
            refine WL_val gd0 ((o_assign (v := .bool x62) rfl) _) rfl ?_
            refine WL_nil ?_
            refine nrm ?_
            refine WC_ret ?_
            refine rtE ?_
            exact gv1 rfl rfl h
          · rw [if_neg (neT hb60)] at h
            refine WL_skip (gdN (b := (s56.toList == s58.toList)) 42 rfl rfl hb60) rfl ?_
            refine WL_val gd0 ((o_pickF (v := .bool false) rfl hb60 rfl) _) rfl ?_
            refine WL_val gd0 ((o_assign (v := .bool false) rfl) _) rfl ?_
            refine WL_nil ?_
            refine nrm ?_
            refine WC_ret ?_
            refine rtE ?_
            exact gv1 rfl rfl h
        · rw [if_neg (of_decide_eq_false hb55)] at h
          refine WL_skip (gdN (b := (decide (r44 = 0))) 35 rfl rfl hb55) rfl ?_
          refine WL_skip (gdN (b := (decide (r44 = 0))) 35 rfl rfl hb55) rfl ?_
          refine WL_skip (gdN (b := (decide (r44 = 0))) 35 rfl rfl hb55) rfl ?_
          refine WL_skip (gdN (b := (decide (r44 = 0))) 35 rfl rfl hb55) rfl ?_
          refine WL_skip (gdN (b := (decide (r44 = 0))) 35 rfl rfl hb55) rfl ?_
          refine WL_val gd0 ((o_pickF (v := .bool false) rfl hb55 rfl) _) rfl ?_
          refine WL_val gd0 ((o_move (v := .bool false) rfl) _) rfl ?_
          refine WL_skip (gdN (b := false) 42 rfl rfl rfl) rfl ?_
          refine WL_val gd0 ((o_pickF (v := .bool false) rfl rfl rfl) _) rfl ?_
          refine WL_val gd0 ((o_assign (v := .bool false) rfl) _) rfl ?_
          refine WL_nil ?_
          refine nrm ?_
          refine WC_ret ?_
          refine rtE ?_
          exact gv1 rfl rfl h
      · rw [if_neg (neT hb54)] at h
        refine WL_skip (gdN (b := x53) 31 rfl rfl hb54) rfl ?_
        refine WL_skip (gdN (b := x53) 31 rfl rfl hb54) rfl ?_
        refine WL_val gd0 ((o_pickF (v := .bool false) rfl hb54 rfl) _) rfl ?_
        refine WL_val gd0 ((o_move (v := .bool false) rfl) _) rfl ?_
        refine WL_skip (gdN (b := false) 35 rfl rfl rfl) rfl ?_
        refine WL_skip (gdN (b := false) 35 rfl rfl rfl) rfl ?_
        refine WL_skip (gdN (b := false) 35 rfl rfl rfl) rfl ?_
        refine WL_skip (gdN (b := false) 35 rfl rfl rfl) rfl ?_
        refine WL_skip (gdN (b := false) 35 rfl rfl rfl) rfl ?_
        refine WL_val gd0 ((o_pickF (v := .bool false) rfl rfl rfl) _) rfl ?_
        refine WL_val gd0 ((o_move (v := .bool false) rfl) _) rfl ?_
        refine WL_skip (gdN (b := false) 42 rfl rfl rfl) rfl ?_
        refine WL_val gd0 ((o_pickF (v := .bool false) rfl rfl rfl) _) rfl ?_
        refine WL_val gd0 ((o_assign (v := .bool false) rfl) _) rfl ?_
        refine WL_nil ?_
        refine nrm ?_
        refine WC_ret ?_
        refine rtE ?_
        exact gv1 rfl rfl h

/-- spacecraft clcw.Encode -/
def F7 (c1 : Int) (c2 : Bool) (c3 : Bool) (c4 : Bool) (c5 : Int) (c6 : Int) (w7 : World) (k : Value → World → Prop) : Prop :=
  New w7 23 [.int .i64 c1, .bool c2, .bool c3, .bool c4, .int .i64 c5, .int .i64 c6] (fun p8 w9 => ∃ (x10 : Int) (x11 x12 x13 : Bool) (x14 x15 : Int), Cells w9 p8 0 [.int .i64 x10, .bool x11, .bool x12, .bool x13, .int .i64 x14, .int .i64 x15] ∧ Does Try.prog 9 #[.agg #[.int .i64 x10, .bool x11, .bool x12, .bool x13, .int .i64 x14, .int .i64 x15]] w9 (fun v w17 => ∃ (x18 : Bool), v = .bool x18 ∧ if (!x18) = true then
  k (.tuple #[.slice none 0 0, .int .i64 1]) w17
else
  Does Try.prog 14 #[] w17 (fun v w20 => ∃ (w21 : Option Addr), v = .pointer w21 ∧ ∃ (x22 : Int), w20.drew.cell? p8 = some (.int .i64 x22) ∧ Does Try.prog 15 #[.pointer w21, .int .u64 0, .int .i64 6] w20.drew (fun v w24 => ∃ (x25 : Option Addr), v = .pointer x25 ∧ w24.cell? p8 = some (.int .i64 x22) ∧ Does Try.prog 15 #[.pointer x25, .int .u64 1, .int .i64 2] w24 (fun v w27 => ∃ (x28 : Option Addr), v = .pointer x28 ∧ w27.cell? p8 = some (.int .i64 x22) ∧ Does Try.prog 15 #[.pointer x28, .int .u64 (IntKind.u64.wrap x22), .int .i64 6] w27 (fun v w30 => ∃ (x31 : Option Addr), v = .pointer x31 ∧ Does Try.prog 15 #[.pointer x31, .int .u64 0, .int .i64 4] w30 (fun v w32 => ∃ (x33 : Option Addr), v = .pointer x33 ∧ ∃ (x34 : Bool), w32.drew.cell? (p8.add 1) = some (.bool x34) ∧ ∃ (x36 : Bool), w32.drew.cell? (p8.add 2) = some (.bool x36) ∧ ∃ (x38 : Bool), w32.drew.cell? (p8.add 3) = some (.bool x38) ∧ Does Try.prog 16 #[.bool x34] w32.drew (fun v w40 => ∃ (x41 : Int), v = .int .u64 x41 ∧ w40.cell? (p8.add 2) = some (.bool x36) ∧ w40.cell? (p8.add 3) = some (.bool x38) ∧ Does Try.prog 15 #[.pointer w21, .int .u64 x41, .int .i64 1] w40 (fun v w44 => ∃ (x45 : Option Addr), v = .pointer x45 ∧ w44.cell? (p8.add 2) = some (.bool x36) ∧ w44.cell? (p8.add 3) = some (.bool x38) ∧ Does Try.prog 16 #[.bool x36] w44 (fun v w48 => ∃ (x49 : Int), v = .int .u64 x49 ∧ w48.cell? (p8.add 3) = some (.bool x38) ∧ Does Try.prog 15 #[.pointer x45, .int .u64 x49, .int .i64 1] w48 (fun v w51 => ∃ (x52 : Option Addr), v = .pointer x52 ∧ w51.cell? (p8.add 3) = some (.bool x38) ∧ Does Try.prog 16 #[.bool x38] w51 (fun v w54 => ∃ (x55 : Int), v = .int .u64 x55 ∧ Does Try.prog 15 #[.pointer x52, .int .u64 x55, .int .i64 1] w54 (fun v w56 => ∃ (x57 : Option Addr), v = .pointer x57 ∧ ∃ (x58 : Int), w56.drew.cell? (p8.add 4) = some (.int .i64 x58) ∧ ∃ (x60 : Int), w56.drew.cell? (p8.add 5) = some (.int .i64 x60) ∧ Does Try.prog 15 #[.pointer w21, .int .u64 (IntKind.u64.wrap x58), .int .i64 2] w56.drew (fun v w62 => ∃ (x63 : Option Addr), v = .pointer x63 ∧ w62.cell? (p8.add 5) = some (.int .i64 x60) ∧ Does Try.prog 15 #[.pointer x63, .int .u64 0, .int .i64 1] w62 (fun v w65 => ∃ (x66 : Option Addr), v = .pointer x66 ∧ w65.cell? (p8.add 5) = some (.int .i64 x60) ∧ Does Try.prog 15 #[.pointer x66, .int .u64 (IntKind.u64.wrap x60), .int .i64 8] w65 (fun v w68 => ∃ (x69 : Option Addr), v = .pointer x69 ∧ Does Try.prog 17 #[.pointer w21] w68 (fun v w70 => ∃ (t_a71 : Option Addr) (t_n72 t_c73 : Nat), v = .slice t_a71 t_n72 t_c73 ∧ k (.tuple #[.slice t_a71 t_n72 t_c73, .int .i64 0]) w70)))))))))))))))))
set_option maxRecDepth 100000 in
set_option maxHeartbeats 2000000 in
theorem w7 (c1 : Int) (c2 : Bool) (c3 : Bool) (c4 : Bool) (c5 : Int) (c6 : Int) (w7 : World) (k : Value → World → Prop) (h : F7 c1 c2 c3 c4 c5 c6 w7 k) : Does Try.prog 7 #[.agg #[.int .i64 c1, .bool c2, .bool c3, .bool c4, .int .i64 c5, .int .i64 c6]] w7 k := by
  refine enter 42 Try.func7 rfl rfl rfl ?_
  intro ρ hρ
  have e0 := hρ 0 _ rfl
  unfold F7 at h
  refine WC_seq ?_
  refine WC_region ?_
  have h := New.out h
  refine WL_val gd0 (o_box (v := .agg #[.int .i64 c1, .bool c2, .bool c3, .bool c4, .int .i64 c5, .int .i64 c6]) (cs := [.int .i64 c1, .bool c2, .bool c3, .bool c4, .int .i64 c5, .int .i64 c6]) (by exact e0) rfl) rfl ?_
  generalize hp8 : fresh w7 = p8 at h ⊢
  generalize hw9 : push w7 23 [.int .i64 c1, .bool c2, .bool c3, .bool c4, .int .i64 c5, .int .i64 c6] = w9 at h ⊢
  try dsimp only at h
  refine WL_val gd0 ((o_assign (v := .slice none 0 0) rfl) _) rfl ?_
  refine WL_val gd0 ((o_assign (v := .int .i64 0) rfl) _) rfl ?_
  refine WL_nil ?_
  refine nrm ?_
  refine WC_seq ?_
  refine WC_seq ?_
  refine WC_region ?_
  obtain ⟨x10, x11, x12, x13, x14, x15, hc16, h⟩ := h
  refine WL_val gd0 (o_loadAgg (vs := [.int .i64 x10, .bool x11, .bool x12, .bool x13, .int .i64 x14, .int .i64 x15]) Try.isAgg23 Try.sizeOf23 rfl hc16) rfl ?_
  refine WL_call gd0 (o_call Try.call9 (argCons rfl argNil) _) rfl (h.mono ?_)
  rintro _ w17 ⟨x18, rfl, h⟩
  refine WL_val gd0 ((o_not rfl) _) rfl ?_
  refine WL_nil ?_
  refine nrm ?_
  refine WC_cond (t := (!x18)) rfl (fun hb19 => ?_) (fun hb19 => ?_)
  · rw [if_pos hb19] at h
    refine WC_seq ?_
    refine WC_region ?_
    refine WL_val gd0 ((o_assign (v := .slice none 0 0) rfl) _) rfl ?_
    refine WL_val gd0 ((o_assign (v := .int .i64 1) rfl) _) rfl ?_
    refine WL_nil ?_
    refine nrm ?_
    refine WC_ret ?_
    refine rtT ?_
    refine rtE ?_
    exact gv2 rfl rfl rfl h
  · rw [if_neg (neT hb19)] at h
    refine WC_skip ?_
    refine nrm ?_
    refine WC_seq ?_
    refine WC_region ?_
    refine WL_call gd0 (o_call Try.call14 argNil _) rfl (h.mono ?_)
    rintro _ w20 ⟨w21, rfl, h⟩
    refine WL_val gd0 ((o_assign (v := .pointer w21) rfl) _) rfl ?_
    refine WL_nil ?_
    refine nrm ?_
    refine WC_seq ?_
    refine WC_draws [1, 2, 6, 7] (.look 0 (.look 3 (.look 4 (.look 5 (.act 1 (.act 2 (.act 6 (.act 7 .nil)))))))) Try.mixed (by kernel_rfl) ?_
    refine WQ_val rfl gd0 (o_move (v := .pointer w21) rfl) rfl ?_
    refine WQ_val rfl gd0 (o_fieldAddr0 Try.underlying23 rfl Try.sizeOf3 rfl rfl rfl) rfl ?_
    obtain ⟨x22, hc23, h⟩ := h
    refine WQ_look (fun w => w.cell? p8 = some (.int .i64 x22)) rfl gd0 (fun w hc => (o_load Try.isAgg3 rfl hc)) hc23 rfl ?_
    refine WQ_val rfl gd0 (o_conv Try.underlying3 Try.underlying36 rfl) rfl ?_
    refine WQ_call rfl gd0 (o_call Try.call15 (argCons rfl (argCons rfl (argCons rfl argNil))) _) rfl (h.mono ?_)
    rintro _ w24 ⟨x25, rfl, hh26, h⟩
    refine ⟨⟨trivial, fun _ => hh26⟩, ?_⟩
    refine WQ_call rfl gd0 (o_call Try.call15 (argCons rfl (argCons rfl (argCons rfl argNil))) _) rfl (h.mono ?_)
    rintro _ w27 ⟨x28, rfl, hh29, h⟩
    refine ⟨⟨trivial, fun _ => hh29⟩, ?_⟩
    refine WQ_call rfl gd0 (o_call Try.call15 (argCons rfl (argCons rfl (argCons rfl argNil))) _) rfl (h.mono ?_)
    rintro _ w30 ⟨x31, rfl, h⟩
    refine ⟨⟨trivial, depT (by kernel_rfl)⟩, ?_⟩
    refine WQ_call rfl gd0 (o_call Try.call15 (argCons rfl (argCons rfl (argCons rfl argNil))) _) rfl (h.mono ?_)
    rintro _ w32 ⟨x33, rfl, h⟩
    refine ⟨⟨trivial, depT (by kernel_rfl)⟩, ?_⟩
    refine WQ_nil ?_
    refine nrm ?_
    refine WC_seq ?_
    refine WC_draws [3, 4, 7, 8, 11, 12] (.look 0 (.look 1 (.look 2 (.look 5 (.look 6 (.look 9 (.look 10 (.act 3 (.act 4 (.act 7 (.act 8 (.act 11 (.act 12 .nil))))))))))))) Try.mixed (by kernel_rfl) ?_
    refine WQ_val rfl gd0 (o_move (v := .pointer w21) rfl) rfl ?_
    refine WQ_val rfl gd0 (o_fieldAddr 1 Try.underlying23 rfl Try.sizeOf4 rfl rfl rfl) rfl ?_
    obtain ⟨x34, hc35, h⟩ := h
    refine WQ_look (fun w => w.cell? (p8.add 1) = some (.bool x34)) rfl gd0 (fun w hc => (o_load Try.isAgg4 rfl hc)) hc35 rfl ?_
    refine WQ_val rfl gd0 (o_fieldAddr 2 Try.underlying23 rfl Try.sizeOf4 rfl rfl rfl) rfl ?_
    obtain ⟨x36, hc37, h⟩ := h
    refine WQ_look (fun w => w.cell? (p8.add 2) = some (.bool x36)) rfl gd0 (fun w hc => (o_load Try.isAgg4 rfl hc)) hc37 rfl ?_
    refine WQ_val rfl gd0 (o_fieldAddr 3 Try.underlying23 rfl Try.sizeOf4 rfl rfl rfl) rfl ?_
    obtain ⟨x38, hc39, h⟩ := h
    refine WQ_look (fun w => w.cell? (p8.add 3) = some (.bool x38)) rfl gd0 (fun w hc => (o_load Try.isAgg4 rfl hc)) hc39 rfl ?_
    refine WQ_call rfl gd0 (o_call Try.call16 (argCons rfl argNil) _) rfl (h.mono ?_)
    rintro _ w40 ⟨x41, rfl, hh42, hh43, h⟩
    refine ⟨⟨⟨⟨trivial, depT (by kernel_rfl)⟩, fun _ => hh42⟩, fun _ => hh43⟩, ?_⟩
    refine WQ_call rfl gd0 (o_call Try.call15 (argCons rfl (argCons rfl (argCons rfl argNil))) _) rfl (h.mono ?_)
    rintro _ w44 ⟨x45, rfl, hh46, hh47, h⟩
    refine ⟨⟨⟨⟨trivial, depT (by kernel_rfl)⟩, fun _ => hh46⟩, fun _ => hh47⟩, ?_⟩
    refine WQ_call rfl gd0 (o_call Try.call16 (argCons rfl argNil) _) rfl (h.mono ?_)
    rintro _ w48 ⟨x49, rfl, hh50, h⟩
    refine ⟨⟨⟨⟨trivial, depT (by kernel_rfl)⟩, depT (by kernel_rfl)⟩, fun _ => hh50⟩, ?_⟩
    refine WQ_call rfl gd0 (o_call Try.call15 (argCons rfl (argCons rfl (argCons rfl argNil))) _) rfl (h.mono ?_)
    rintro _ w51 ⟨x52, rfl, hh53, h⟩
    refine ⟨⟨⟨⟨trivial, depT (by kernel_rfl)⟩, depT (by kernel_rfl)⟩, fun _ => hh53⟩, ?_⟩
    refine WQ_call rfl gd0 (o_call Try.call16 (argCons rfl argNil) _) rfl (h.mono ?_)
    rintro _ w54 ⟨x55, rfl, h⟩
    refine ⟨⟨⟨⟨trivial, depT (by kernel_rfl)⟩, depT (by kernel_rfl)⟩, depT (by kernel_rfl)⟩, ?_⟩
    refine WQ_call rfl gd0 (o_call Try.call15 (argCons rfl (argCons rfl (argCons rfl argNil))) _) rfl (h.mono ?_)
    rintro _ w56 ⟨x57, rfl, h⟩
    refine ⟨⟨⟨⟨trivial, depT (by kernel_rfl)⟩, depT (by kernel_rfl)⟩, depT (by kernel_rfl)⟩, ?_⟩
    refine WQ_nil ?_
    refine nrm ?_
    refine WC_seq ?_
    refine WC_draws [4, 5, 9] (.look 0 (.look 1 (.look 2 (.look 3 (.look 6 (.look 7 (.look 8 (.act 4 (.act 5 (.act 9 .nil)))))))))) Try.mixed (by kernel_rfl) ?_
    refine WQ_val rfl gd0 (o_move (v := .pointer w21) rfl) rfl ?_
    refine WQ_val rfl gd0 (o_fieldAddr 4 Try.underlying23 rfl Try.sizeOf3 rfl rfl rfl) rfl ?_
    obtain ⟨x58, hc59, h⟩ := h
    refine WQ_look (fun w => w.cell? (p8.add 4) = some (.int .i64 x58)) rfl gd0 (fun w hc => (o_load Try.isAgg3 rfl hc)) hc59 rfl ?_
    refine WQ_val rfl gd0 (o_conv Try.underlying3 Try.underlying36 rfl) rfl ?_
    refine WQ_val rfl gd0 (o_fieldAddr 5 Try.underlying23 rfl Try.sizeOf3 rfl rfl rfl) rfl ?_
    obtain ⟨x60, hc61, h⟩ := h
    refine WQ_look (fun w => w.cell? (p8.add 5) = some (.int .i64 x60)) rfl gd0 (fun w hc => (o_load Try.isAgg3 rfl hc)) hc61 rfl ?_
    refine WQ_val rfl gd0 (o_conv Try.underlying3 Try.underlying36 rfl) rfl ?_
    refine WQ_call rfl gd0 (o_call Try.call15 (argCons rfl (argCons rfl (argCons rfl argNil))) _) rfl (h.mono ?_)
    rintro _ w62 ⟨x63, rfl, hh64, h⟩
    refine ⟨⟨⟨trivial, depT (by kernel_rfl)⟩, fun _ => hh64⟩, ?_⟩
    refine WQ_call rfl gd0 (o_call Try.call15 (argCons rfl (argCons rfl (argCons rfl argNil))) _) rfl (h.mono ?_)
    rintro _ w65 ⟨x66, rfl, hh67, h⟩
    refine ⟨⟨⟨trivial, depT (by kernel_rfl)⟩, fun _ => hh67⟩, ?_⟩
    refine WQ_call rfl gd0 (o_call Try.call15 (argCons rfl (argCons rfl (argCons rfl argNil))) _) rfl (h.mono ?_)
    rintro _ w68 ⟨x69, rfl, h⟩
    refine ⟨⟨⟨trivial, depT (by kernel_rfl)⟩, depT (by kernel_rfl)⟩, ?_⟩
    refine WQ_nil ?_
    refine nrm ?_
    refine WC_seq ?_
    refine WC_region ?_
    refine WL_val gd0 ((o_move (v := .pointer w21) rfl) _) rfl ?_
    refine WL_call gd0 (o_call Try.call17 (argCons rfl argNil) _) rfl (h.mono ?_)
    rintro _ w70 ⟨t_a71, t_n72, t_c73, rfl, h⟩
    refine WL_val gd0 ((o_assign (v := .slice t_a71 t_n72 t_c73) rfl) _) rfl ?_
    refine WL_val gd0 ((o_assign (v := .int .i64 0) rfl) _) rfl ?_
    refine WL_nil ?_
    refine nrm ?_
    refine WC_ret ?_
    refine rtE ?_
    exact gv2 rfl rfl rfl h

/-- spacecraft spacecraftref15.Encode -/
def F8 (c1 : Int) (c2 : Bool) (c3 : Bool) (c4 : Bool) (c5 : Int) (c6 : Int) (w7 : World) (k : Value → World → Prop) : Prop :=
  New w7 23 [.int .i64 c1, .bool c2, .bool c3, .bool c4, .int .i64 c5, .int .i64 c6] (fun p8 w9 => ∃ (x10 : Int) (x11 x12 x13 : Bool) (x14 x15 : Int), Cells w9 p8 0 [.int .i64 x10, .bool x11, .bool x12, .bool x13, .int .i64 x14, .int .i64 x15] ∧ Does Try.prog 10 #[.agg #[.int .i64 x10, .bool x11, .bool x12, .bool x13, .int .i64 x14, .int .i64 x15]] w9 (fun v w17 => ∃ (x18 : Bool), v = .bool x18 ∧ if (!x18) = true then
  k (.tuple #[.slice none 0 0, .int .i64 1]) w17
else
  ∃ (x20 : Int), w17.drew.cell? p8 = some (.int .i64 x20) ∧ ∃ (x22 : Bool), w17.drew.cell? (p8.add 1) = some (.bool x22) ∧ ∃ (x24 : Bool), w17.drew.cell? (p8.add 2) = some (.bool x24) ∧ ∃ (x26 : Bool), w17.drew.cell? (p8.add 3) = some (.bool x26) ∧ ∃ (x28 : Int), w17.drew.cell? (p8.add 4) = some (.int .i64 x28) ∧ ∃ (x30 : Int), w17.drew.cell? (p8.add 5) = some (.int .i64 x30) ∧ Does Try.prog 18 #[.bool x22, .int .i64 32] w17.drew (fun v w32 => ∃ (x33 : Int), v = .int .i64 x33 ∧ w32.cell? p8 = some (.int .i64 x20) ∧ w32.cell? (p8.add 2) = some (.bool x24) ∧ w32.cell? (p8.add 3) = some (.bool x26) ∧ w32.cell? (p8.add 4) = some (.int .i64 x28) ∧ w32.cell? (p8.add 5) = some (.int .i64 x30) ∧ Does Try.prog 18 #[.bool x24, .int .i64 16] w32 (fun v w39 => ∃ (x40 : Int), v = .int .i64 x40 ∧ w39.cell? p8 = some (.int .i64 x20) ∧ w39.cell? (p8.add 3) = some (.bool x26) ∧ w39.cell? (p8.add 4) = some (.int .i64 x28) ∧ w39.cell? (p8.add 5) = some (.int .i64 x30) ∧ Does Try.prog 18 #[.bool x26, .int .i64 8] w39 (fun v w45 => ∃ (x46 : Int), v = .int .i64 x46 ∧ w45.cell? p8 = some (.int .i64 x20) ∧ w45.cell? (p8.add 4) = some (.int .i64 x28) ∧ w45.cell? (p8.add 5) = some (.int .i64 x30) ∧ New w45 5 [.int .u8 1, .int .u8 (IntKind.u8.wrap (IntKind.i64.wrap (4 * x20))), .int .u8 (IntKind.u8.wrap (IntKind.i64.wrap ((IntKind.i64.wrap ((IntKind.i64.wrap (x33 + x40)) + x46)) + (IntKind.i64.wrap (2 * x28))))), .int .u8 (IntKind.u8.wrap x30)] (fun p50 w51 => k (.tuple #[.slice (some p50) 4 4, .int .i64 0]) w51))))))
set_option maxRecDepth 100000 in
set_option maxHeartbeats 2000000 in
theorem w8 (c1 : Int) (c2 : Bool) (c3 : Bool) (c4 : Bool) (c5 : Int) (c6 : Int) (w7 : World) (k : Value → World → Prop) (h : F8 c1 c2 c3 c4 c5 c6 w7 k) : Does Try.prog 8 #[.agg #[.int .i64 c1, .bool c2, .bool c3, .bool c4, .int .i64 c5, .int .i64 c6]] w7 k := by
  refine enter 31 Try.func8 rfl rfl rfl ?_
  intro ρ hρ
  have e0 := hρ 0 _ rfl
  unfold F8 at h
  refine WC_seq ?_
  refine WC_region ?_
  have h := New.out h
  refine WL_val gd0 (o_box (v := .agg #[.int .i64 c1, .bool c2, .bool c3, .bool c4, .int .i64 c5, .int .i64 c6]) (cs := [.int .i64 c1, .bool c2, .bool c3, .bool c4, .int .i64 c5, .int .i64 c6]) (by exact e0) rfl) rfl ?_
  generalize hp8 : fresh w7 = p8 at h ⊢
  generalize hw9 : push w7 23 [.int .i64 c1, .bool c2, .bool c3, .bool c4, .int .i64 c5, .int .i64 c6] = w9 at h ⊢
  try dsimp only at h
  refine WL_val gd0 ((o_assign (v := .slice none 0 0) rfl) _) rfl ?_
  refine WL_val gd0 ((o_assign (v := .int .i64 0) rfl) _) rfl ?_
  refine WL_nil ?_
  refine nrm ?_
  refine WC_seq ?_
  refine WC_seq ?_
  refine WC_region ?_
  obtain ⟨x10, x11, x12, x13, x14, x15, hc16, h⟩ := h
  refine WL_val gd0 (o_loadAgg (vs := [.int .i64 x10, .bool x11, .bool x12, .bool x13, .int .i64 x14, .int .i64 x15]) Try.isAgg23 Try.sizeOf23 rfl hc16) rfl ?_
  refine WL_call gd0 (o_call Try.call10 (argCons rfl argNil) _) rfl (h.mono ?_)
  rintro _ w17 ⟨x18, rfl, h⟩
  refine WL_val gd0 ((o_not rfl) _) rfl ?_
  refine WL_nil ?_
  refine nrm ?_
  refine WC_cond (t := (!x18)) rfl (fun hb19 => ?_) (fun hb19 => ?_)
  · rw [if_pos hb19] at h
    refine WC_seq ?_
    refine WC_region ?_
    refine WL_val gd0 ((o_assign (v := .slice none 0 0) rfl) _) rfl ?_
    refine WL_val gd0 ((o_assign (v := .int .i64 1) rfl) _) rfl ?_
    refine WL_nil ?_
    refine nrm ?_
    refine WC_ret ?_
    refine rtT ?_
    refine rtE ?_
    exact gv2 rfl rfl rfl h
  · rw [if_neg (neT hb19)] at h
    refine WC_skip ?_
    refine nrm ?_
    refine WC_seq ?_
    refine WC_draws [6, 9, 13, 23] (.look 0 (.look 1 (.look 2 (.look 3 (.look 4 (.look 5 (.look 7 (.look 8 (.look 11 (.look 12 (.look 15 (.look 16 (.look 17 (.look 20 (.look 21 (.look 22 (.act 6 (.act 9 (.look 10 (.act 13 (.look 14 (.look 18 (.look 19 (.act 23 (.look 24 (.look 25 .nil)))))))))))))))))))))))))) Try.mixed (by kernel_rfl) ?_
    refine WQ_val rfl gd0 (o_fieldAddr0 Try.underlying23 rfl Try.sizeOf3 rfl rfl rfl) rfl ?_
    obtain ⟨x20, hc21, h⟩ := h
    refine WQ_look (fun w => w.cell? p8 = some (.int .i64 x20)) rfl gd0 (fun w hc => (o_load Try.isAgg3 rfl hc)) hc21 rfl ?_
    refine WQ_val rfl gd0 (o_mul rfl rfl) rfl ?_
    refine WQ_val rfl gd0 (o_conv Try.underlying3 Try.underlying5 rfl) rfl ?_
    refine WQ_val rfl gd0 (o_fieldAddr 1 Try.underlying23 rfl Try.sizeOf4 rfl rfl rfl) rfl ?_
    obtain ⟨x22, hc23, h⟩ := h
    refine WQ_look (fun w => w.cell? (p8.add 1) = some (.bool x22)) rfl gd0 (fun w hc => (o_load Try.isAgg4 rfl hc)) hc23 rfl ?_
    refine WQ_val rfl gd0 (o_fieldAddr 2 Try.underlying23 rfl Try.sizeOf4 rfl rfl rfl) rfl ?_
    obtain ⟨x24, hc25, h⟩ := h
    refine WQ_look (fun w => w.cell? (p8.add 2) = some (.bool x24)) rfl gd0 (fun w hc => (o_load Try.isAgg4 rfl hc)) hc25 rfl ?_
    refine WQ_val rfl gd0 (o_fieldAddr 3 Try.underlying23 rfl Try.sizeOf4 rfl rfl rfl) rfl ?_
    obtain ⟨x26, hc27, h⟩ := h
    refine WQ_look (fun w => w.cell? (p8.add 3) = some (.bool x26)) rfl gd0 (fun w hc => (o_load Try.isAgg4 rfl hc)) hc27 rfl ?_
    refine WQ_val rfl gd0 (o_fieldAddr 4 Try.underlying23 rfl Try.sizeOf3 rfl rfl rfl) rfl ?_
    obtain ⟨x28, hc29, h⟩ := h
    refine WQ_look (fun w => w.cell? (p8.add 4) = some (.int .i64 x28)) rfl gd0 (fun w hc => (o_load Try.isAgg3 rfl hc)) hc29 rfl ?_
    refine WQ_val rfl gd0 (o_mul rfl rfl) rfl ?_
    refine WQ_val rfl gd0 (o_fieldAddr 5 Try.underlying23 rfl Try.sizeOf3 rfl rfl rfl) rfl ?_
    obtain ⟨x30, hc31, h⟩ := h
    refine WQ_look (fun w => w.cell? (p8.add 5) = some (.int .i64 x30)) rfl gd0 (fun w hc => (o_load Try.isAgg3 rfl hc)) hc31 rfl ?_
    refine WQ_val rfl gd0 (o_conv Try.underlying3 Try.underlying5 rfl) rfl ?_
    refine WQ_call rfl gd0 (o_call Try.call18 (argCons rfl (argCons rfl argNil)) _) rfl (h.mono ?_)
    rintro _ w32 ⟨x33, rfl, hh34, hh35, hh36, hh37, hh38, h⟩
    refine ⟨⟨⟨⟨⟨⟨⟨trivial, fun _ => hh34⟩, depT (by kernel_rfl)⟩, fun _ => hh35⟩, fun _ => hh36⟩, fun _ => hh37⟩, fun _ => hh38⟩, ?_⟩
    refine WQ_call rfl gd0 (o_call Try.call18 (argCons rfl (argCons rfl argNil)) _) rfl (h.mono ?_)
    rintro _ w39 ⟨x40, rfl, hh41, hh42, hh43, hh44, h⟩
    refine ⟨⟨⟨⟨⟨⟨⟨trivial, fun _ => hh41⟩, depT (by kernel_rfl)⟩, depT (by kernel_rfl)⟩, fun _ => hh42⟩, fun _ => hh43⟩, fun _ => hh44⟩, ?_⟩
    refine WQ_val rfl gd0 (o_add rfl rfl) rfl ?_
    refine WQ_call rfl gd0 (o_call Try.call18 (argCons rfl (argCons rfl argNil)) _) rfl (h.mono ?_)
    rintro _ w45 ⟨x46, rfl, hh47, hh48, hh49, h⟩
    refine ⟨⟨⟨⟨⟨⟨⟨trivial, fun _ => hh47⟩, depT (by kernel_rfl)⟩, depT (by kernel_rfl)⟩, depT (by kernel_rfl)⟩, fun _ => hh48⟩, fun _ => hh49⟩, ?_⟩
    refine WQ_val rfl gd0 (o_add rfl rfl) rfl ?_
    refine WQ_val rfl gd0 (o_add rfl rfl) rfl ?_
    refine WQ_val rfl gd0 (o_conv Try.underlying3 Try.underlying5 rfl) rfl ?_
    have h := New.out h
    refine WQ_act rfl gd0 (o_buildSlice (e := 5) (ps := [(0, .int .u8 1), (1, .int .u8 (IntKind.u8.wrap (IntKind.i64.wrap (4 * x20)))), (2, .int .u8 (IntKind.u8.wrap (IntKind.i64.wrap ((IntKind.i64.wrap ((IntKind.i64.wrap (x33 + x40)) + x46)) + (IntKind.i64.wrap (2 * x28)))))), (3, .int .u8 (IntKind.u8.wrap x30))]) (cs := [.int .u8 1, .int .u8 (IntKind.u8.wrap (IntKind.i64.wrap (4 * x20))), .int .u8 (IntKind.u8.wrap (IntKind.i64.wrap ((IntKind.i64.wrap ((IntKind.i64.wrap (x33 + x40)) + x46)) + (IntKind.i64.wrap (2 * x28))))), .int .u8 (IntKind.u8.wrap x30)]) (partCons rfl (partCons rfl (partCons rfl (partCons rfl partNil)))) (fun w => by kernel_rfl)) rfl (by exact ⟨⟨⟨⟨⟨⟨trivial, depT (by kernel_rfl)⟩, depT (by kernel_rfl)⟩, depT (by kernel_rfl)⟩, depT (by kernel_rfl)⟩, depT (by kernel_rfl)⟩, depT (by kernel_rfl)⟩) ?_
    generalize hp50 : fresh w45 = p50 at h ⊢
    generalize hw51 : push w45 5 [.int .u8 1, .int .u8 (IntKind.u8.wrap (IntKind.i64.wrap (4 * x20))), .int .u8 (IntKind.u8.wrap (IntKind.i64.wrap ((IntKind.i64.wrap ((IntKind.i64.wrap (x33 + x40)) + x46)) + (IntKind.i64.wrap (2 * x28))))), .int .u8 (IntKind.u8.wrap x30)] = w51 at h ⊢
    try dsimp only at h
    refine WQ_val rfl gd0 (o_assign (v := .slice (some p50) 4 4) rfl) rfl ?_
    refine WQ_val rfl gd0 (o_assign (v := .int .i64 0) rfl) rfl ?_
    refine WQ_nil ?_
    refine nrm ?_
    refine WC_ret ?_
    refine rtE ?_
    exact gv2 rfl rfl rfl h

/-- spacecraft clcw.Valid -/
def F9 (c1 : Int) (c2 : Bool) (c3 : Bool) (c4 : Bool) (c5 : Int) (c6 : Int) (w7 : World) (k : Value → World → Prop) : Prop :=
  New w7 23 [.int .i64 c1, .bool c2, .bool c3, .bool c4, .int .i64 c5, .int .i64 c6] (fun p8 w9 => ∃ (x10 : Int), w9.cell? p8 = some (.int .i64 x10) ∧ if 0 ≤ x10 then
  ∃ (x13 : Int), w9.cell? p8 = some (.int .i64 x13) ∧ if x13 ≤ 7 then
    ∃ (x16 : Int), w9.cell? (p8.add 4) = some (.int .i64 x16) ∧ if 0 ≤ x16 then
      ∃ (x19 : Int), w9.cell? (p8.add 4) = some (.int .i64 x19) ∧ if x19 ≤ 3 then
        ∃ (x22 : Int), w9.cell? (p8.add 5) = some (.int .i64 x22) ∧ if 0 ≤ x22 then
          ∃ (x25 : Int), w9.cell? (p8.add 5) = some (.int .i64 x25) ∧ k (.bool (decide (x25 ≤ 255))) w9
        else
          k (.bool false) w9
      else
        k (.bool false) w9
    else
      k (.bool false) w9
  else
    k (.bool false) w9
else
  k (.bool false) w9)
set_option maxRecDepth 100000 in
set_option maxHeartbeats 2000000 in
theorem w9 (c1 : Int) (c2 : Bool) (c3 : Bool) (c4 : Bool) (c5 : Int) (c6 : Int) (w7 : World) (k : Value → World → Prop) (h : F9 c1 c2 c3 c4 c5 c6 w7 k) : Does Try.prog 9 #[.agg #[.int .i64 c1, .bool c2, .bool c3, .bool c4, .int .i64 c5, .int .i64 c6]] w7 k := by
  refine enter 31 Try.func9 rfl rfl rfl ?_
  intro ρ hρ
  have e0 := hρ 0 _ rfl
  unfold F9 at h
  refine WC_seq ?_
  refine WC_region ?_
  have h := New.out h
  refine WL_val gd0 (o_box (v := .agg #[.int .i64 c1, .bool c2, .bool c3, .bool c4, .int .i64 c5, .int .i64 c6]) (cs := [.int .i64 c1, .bool c2, .bool c3, .bool c4, .int .i64 c5, .int .i64 c6]) (by exact e0) rfl) rfl ?_
  generalize hp8 : fresh w7 = p8 at h ⊢
  generalize hw9 : push w7 23 [.int .i64 c1, .bool c2, .bool c3, .bool c4, .int .i64 c5, .int .i64 c6] = w9 at h ⊢
  try dsimp only at h
  refine WL_val gd0 ((o_assign (v := .bool false) rfl) _) rfl ?_
  refine WL_nil ?_
  refine nrm ?_
  refine WC_seq ?_
  refine WC_region ?_
  refine WL_val gd0 ((o_fieldAddr0 Try.underlying23 rfl Try.sizeOf3 rfl rfl rfl) _) rfl ?_
  obtain ⟨x10, hc11, h⟩ := h
  refine WL_val gd0 (o_load Try.isAgg3 rfl hc11) rfl ?_
  refine WL_val gd0 ((o_geq rfl rfl) _) rfl ?_
  refine WL_val gd0 ((o_move (v := .bool (decide (0 ≤ x10))) rfl) _) rfl ?_
  refine bsplit (decide (0 ≤ x10)) (fun hb12 => ?_) (fun hb12 => ?_)
  · rw [if_pos (of_decide_eq_true hb12)] at h
    refine WL_val (gdY (b := (decide (0 ≤ x10))) 6 rfl rfl hb12) ((o_fieldAddr0 Try.underlying23 rfl Try.sizeOf3 rfl rfl rfl) _) rfl ?_
    obtain ⟨x13, hc14, h⟩ := h
    refine WL_val (gdY (b := (decide (0 ≤ x10))) 6 rfl rfl hb12) (o_load Try.isAgg3 rfl hc14) rfl ?_
    refine WL_val (gdY (b := (decide (0 ≤ x10))) 6 rfl rfl hb12) ((o_leq rfl rfl) _) rfl ?_
    refine WL_val gd0 ((o_pickT (v := .bool (decide (x13 ≤ 7))) rfl hb12 rfl) _) rfl ?_
    refine WL_val gd0 ((o_move (v := .bool (decide (x13 ≤ 7))) rfl) _) rfl ?_
    refine bsplit (decide (x13 ≤ 7)) (fun hb15 => ?_) (fun hb15 => ?_)
    · rw [if_pos (of_decide_eq_true hb15)] at h
      refine WL_val (gdY (b := (decide (x13 ≤ 7))) 11 rfl rfl hb15) ((o_fieldAddr 4 Try.underlying23 rfl Try.sizeOf3 rfl rfl rfl) _) rfl ?_
      obtain ⟨x16, hc17, h⟩ := h
      refine WL_val (gdY (b := (decide (x13 ≤ 7))) 11 rfl rfl hb15) (o_load Try.isAgg3 rfl hc17) rfl ?_
      refine WL_val (gdY (b := (decide (x13 ≤ 7))) 11 rfl rfl hb15) ((o_geq rfl rfl) _) rfl ?_
      refine WL_val gd0 ((o_pickT (v := .bool (decide (0 ≤ x16))) rfl hb15 rfl) _) rfl ?_
      refine WL_val gd0 ((o_move (v := .bool (decide (0 ≤ x16))) rfl) _) rfl ?_
      refine bsplit (decide (0 ≤ x16)) (fun hb18 => ?_) (fun hb18 => ?_)
      · rw [if_pos (of_decide_eq_true hb18)] at h
        refine WL_val (gdY (b := (decide (0 ≤ x16))) 16 rfl rfl hb18) ((o_fieldAddr 4 Try.underlying23 rfl Try.sizeOf3 rfl rfl rfl) _) rfl ?_
        obtain ⟨x19, hc20, h⟩ := h
        refine WL_val (gdY (b := (decide (0 ≤ x16))) 16 rfl rfl hb18) (o_load Try.isAgg3 rfl hc20) rfl ?_
        refine WL_val (gdY (b := (decide (0 ≤ x16))) 16 rfl rfl hb18) ((o_leq rfl rfl) _) rfl ?_
        refine WL_val gd0 ((o_pickT (v := .bool (decide (x19 ≤ 3))) rfl hb18 rfl) _) rfl ?_
        refine WL_val gd0 ((o_move (v := .bool (decide (x19 ≤ 3))) rfl) _) rfl ?_
        refine bsplit (decide (x19 ≤ 3)) (fun hb21 => ?_) (fun hb21 => ?_)
        · rw [if_pos (of_decide_eq_true hb21)] at h
          refine WL_val (gdY (b := (decide (x19 ≤ 3))) 21 rfl rfl hb21) ((o_fieldAddr 5 Try.underlying23 rfl Try.sizeOf3 rfl rfl rfl) _) rfl ?_
          obtain ⟨x22, hc23, h⟩ := h
          refine WL_val (gdY (b := (decide (x19 ≤ 3))) 21 rfl rfl hb21) (o_load Try.isAgg3 rfl hc23) rfl ?_
          refine WL_val (gdY (b := (decide (x19 ≤ 3))) 21 rfl rfl hb21) ((o_geq rfl rfl) _) rfl ?_
          refine WL_val gd0 ((o_pickT (v := .bool (decide (0 ≤ x22))) rfl hb21 rfl) _) rfl ?_
          refine WL_val gd0 ((o_move (v := .bool (decide (0 ≤ x22))) rfl) _) rfl ?_
          refine bsplit (decide (0 ≤ x22)) (fun hb24 => ?_) (fun hb24 => ?_)
          · rw [if_pos (of_decide_eq_true hb24)] at h
            refine WL_val (gdY (b := (decide (0 ≤ x22))) 26 rfl rfl hb24) ((o_fieldAddr 5 Try.underlying23 rfl Try.sizeOf3 rfl rfl rfl) _) rfl ?_
            obtain ⟨x25, hc26, h⟩ := h
            refine WL_val (gdY (b := (decide (0 ≤ x22))) 26 rfl rfl hb24) (o_load Try.isAgg3 rfl hc26) rfl ?_
            refine WL_val (gdY (b := (decide (0 ≤ x22))) 26 rfl rfl hb24) ((o_leq rfl rfl) _) rfl ?_
            refine WL_val gd0 ((o_pickT (v := .bool (decide (x25 ≤ 255))) rfl hb24 rfl) _) rfl ?_
            refine WL_val gd0 ((o_assign (v := .bool (decide (x25 ≤ 255))) rfl) _) rfl ?_
            refine WL_nil ?_
            refine nrm ?_
            refine WC_ret ?_
            refine rtE ?_
            exact gv1 rfl rfl h
          · rw [if_neg (of_decide_eq_false hb24)] at h
            refine WL_skip (gdN (b := (decide (0 ≤ x22))) 26 rfl rfl hb24) rfl ?_
            refine WL_skip (gdN (b := (decide (0 ≤ x22))) 26 rfl rfl hb24) rfl ?_
            refine WL_skip (gdN (b := (decide (0 ≤ x22))) 26 rfl rfl hb24) rfl ?_
            refine WL_val gd0 ((o_pickF (v := .bool false) rfl hb24 rfl) _) rfl ?_
            refine WL_val gd0 ((o_assign (v := .bool false) rfl) _) rfl ?_
            refine WL_nil ?_
            refine nrm ?_
            refine WC_ret ?_
            refine rtE ?_
            exact gv1 rfl rfl h
        · rw [if_neg (of_decide_eq_false hb21)] at h
          refine WL_skip (gdN (b := (decide (x19 ≤ 3))) 21 rfl rfl hb21) rfl ?_
          refine WL_skip (gdN (b := (decide (x19 ≤ 3))) 21 rfl rfl hb21) rfl ?_
          refine WL_skip (gdN (b := (decide (x19 ≤ 3))) 21 rfl rfl hb21) rfl ?_
          refine WL_val gd0 ((o_pickF (v := .bool false) rfl hb21 rfl) _) rfl ?_
          refine WL_val gd0 ((o_move (v := .bool false) rfl) _) rfl ?_
          refine WL_skip (gdN (b := false) 26 rfl rfl rfl) rfl ?_
          refine WL_skip (gdN (b := false) 26 rfl rfl rfl) rfl ?_
          refine WL_skip (gdN (b := false) 26 rfl rfl rfl) rfl ?_
          refine WL_val gd0 ((o_pickF (v := .bool false) rfl rfl rfl) _) rfl ?_
          refine WL_val gd0 ((o_assign (v := .bool false) rfl) _) rfl ?_
          refine WL_nil ?_
          refine nrm ?_
          refine WC_ret ?_
          refine rtE ?_
          exact gv1 rfl rfl h
      · rw [if_neg (of_decide_eq_false hb18)] at h
        refine WL_skip (gdN (b := (decide (0 ≤ x16))) 16 rfl rfl hb18) rfl ?_
        refine WL_skip (gdN (b := (decide (0 ≤ x16))) 16 rfl rfl hb18) rfl ?_
        refine WL_skip (gdN (b := (decide (0 ≤ x16))) 16 rfl rfl hb18) rfl ?_
        refine WL_val gd0 ((o_pickF (v := .bool false) rfl hb18 rfl) _) rfl ?_
        refine WL_val gd0 ((o_move (v := .bool false) rfl) _) rfl ?_
        refine WL_skip (gdN (b := false) 21 rfl rfl rfl) rfl ?_
        refine WL_skip (gdN (b := false) 21 rfl rfl rfl) rfl ?_
        refine WL_skip (gdN (b := false) 21 rfl rfl rfl) rfl ?_
        refine WL_val gd0 ((o_pickF (v := .bool false) rfl rfl rfl) _) rfl ?_
        refine WL_val gd0 ((o_move (v := .bool false) rfl) _) rfl ?_
        refine WL_skip (gdN (b := false) 26 rfl rfl rfl) rfl ?_
        refine WL_skip (gdN (b := false) 26 rfl rfl rfl) rfl ?_
        refine WL_skip (gdN (b := false) 26 rfl rfl rfl) rfl ?_
        refine WL_val gd0 ((o_pickF (v := .bool false) rfl rfl rfl) _) rfl ?_
        refine WL_val gd0 ((o_assign (v := .bool false) rfl) _) rfl ?_
        refine WL_nil ?_
        refine nrm ?_
        refine WC_ret ?_
        refine rtE ?_
        exact gv1 rfl rfl h
    · rw [if_neg (of_decide_eq_false hb15)] at h
      refine WL_skip (gdN (b := (decide (x13 ≤ 7))) 11 rfl rfl hb15) rfl ?_
      refine WL_skip (gdN (b := (decide (x13 ≤ 7))) 11 rfl rfl hb15) rfl ?_
      refine WL_skip (gdN (b := (decide (x13 ≤ 7))) 11 rfl rfl hb15) rfl ?_
      refine WL_val gd0 ((o_pickF (v := .bool false) rfl hb15 rfl) _) rfl ?_
      refine WL_val gd0 ((o_move (v := .bool false) rfl) _) rfl ?_
      refine WL_skip (gdN (b := false) 16 rfl rfl rfl) rfl ?_
      refine WL_skip (gdN (b := false) 16 rfl rfl rfl) rfl ?_
      refine WL_skip (gdN (b := false) 16 rfl rfl rfl) rfl ?_
      refine WL_val gd0 ((o_pickF (v := .bool false) rfl rfl rfl) _) rfl ?_
      refine WL_val gd0 ((o_move (v := .bool false) rfl) _) rfl ?_
      refine WL_skip (gdN (b := false) 21 rfl rfl rfl) rfl ?_
      refine WL_skip (gdN (b := false) 21 rfl rfl rfl) rfl ?_
      refine WL_skip (gdN (b := false) 21 rfl rfl rfl) rfl ?_
      refine WL_val gd0 ((o_pickF (v := .bool false) rfl rfl rfl) _) rfl ?_
      refine WL_val gd0 ((o_move (v := .bool false) rfl) _) rfl ?_
      refine WL_skip (gdN (b := false) 26 rfl rfl rfl) rfl ?_
      refine WL_skip (gdN (b := false) 26 rfl rfl rfl) rfl ?_
      refine WL_skip (gdN (b := false) 26 rfl rfl rfl) rfl ?_
      refine WL_val gd0 ((o_pickF (v := .bool false) rfl rfl rfl) _) rfl ?_
      refine WL_val gd0 ((o_assign (v := .bool false) rfl) _) rfl ?_
      refine WL_nil ?_
      refine nrm ?_
      refine WC_ret ?_
      refine rtE ?_
      exact gv1 rfl rfl h
  · rw [if_neg (of_decide_eq_false hb12)] at h
    refine WL_skip (gdN (b := (decide (0 ≤ x10))) 6 rfl rfl hb12) rfl ?_
    refine WL_skip (gdN (b := (decide (0 ≤ x10))) 6 rfl rfl hb12) rfl ?_
    refine WL_skip (gdN (b := (decide (0 ≤ x10))) 6 rfl rfl hb12) rfl ?_
    refine WL_val gd0 ((o_pickF (v := .bool false) rfl hb12 rfl) _) rfl ?_
    refine WL_val gd0 ((o_move (v := .bool false) rfl) _) rfl ?_
    refine WL_skip (gdN (b := false) 11 rfl rfl rfl) rfl ?_
    refine WL_skip (gdN (b := false) 11 rfl rfl rfl) rfl ?_
    refine WL_skip (gdN (b := false) 11 rfl rfl rfl) rfl ?_
    refine WL_val gd0 ((o_pickF (v := .bool false) rfl rfl rfl) _) rfl ?_
    refine WL_val gd0 ((o_move (v := .bool false) rfl) _) rfl ?_
    refine WL_skip (gdN (b := false) 16 rfl rfl rfl) rfl ?_
    refine WL_skip (gdN (b := false) 16 rfl rfl rfl) rfl ?_
    refine WL_skip (gdN (b := false) 16 rfl rfl rfl) rfl ?_
    refine WL_val gd0 ((o_pickF (v := .bool false) rfl rfl rfl) _) rfl ?_
    refine WL_val gd0 ((o_move (v := .bool false) rfl) _) rfl ?_
    refine WL_skip (gdN (b := false) 21 rfl rfl rfl) rfl ?_
    refine WL_skip (gdN (b := false) 21 rfl rfl rfl) rfl ?_
    refine WL_skip (gdN (b := false) 21 rfl rfl rfl) rfl ?_
    refine WL_val gd0 ((o_pickF (v := .bool false) rfl rfl rfl) _) rfl ?_
    refine WL_val gd0 ((o_move (v := .bool false) rfl) _) rfl ?_
    refine WL_skip (gdN (b := false) 26 rfl rfl rfl) rfl ?_
    refine WL_skip (gdN (b := false) 26 rfl rfl rfl) rfl ?_
    refine WL_skip (gdN (b := false) 26 rfl rfl rfl) rfl ?_
    refine WL_val gd0 ((o_pickF (v := .bool false) rfl rfl rfl) _) rfl ?_
    refine WL_val gd0 ((o_assign (v := .bool false) rfl) _) rfl ?_
    refine WL_nil ?_
    refine nrm ?_
    refine WC_ret ?_
    refine rtE ?_
    exact gv1 rfl rfl h

/-- spacecraft spacecraftref15.Valid -/
def F10 (c1 : Int) (c2 : Bool) (c3 : Bool) (c4 : Bool) (c5 : Int) (c6 : Int) (w7 : World) (k : Value → World → Prop) : Prop :=
  New w7 23 [.int .i64 c1, .bool c2, .bool c3, .bool c4, .int .i64 c5, .int .i64 c6] (fun p8 w9 => ∃ (x10 : Int), w9.cell? p8 = some (.int .i64 x10) ∧ if 0 ≤ x10 then
  ∃ (x13 : Int), w9.cell? p8 = some (.int .i64 x13) ∧ if x13 ≤ 7 then
    ∃ (x16 : Int), w9.cell? (p8.add 4) = some (.int .i64 x16) ∧ if 0 ≤ x16 then
      ∃ (x19 : Int), w9.cell? (p8.add 4) = some (.int .i64 x19) ∧ if x19 ≤ 3 then
        ∃ (x22 : Int), w9.cell? (p8.add 5) = some (.int .i64 x22) ∧ if 0 ≤ x22 then
          ∃ (x25 : Int), w9.cell? (p8.add 5) = some (.int .i64 x25) ∧ k (.bool (decide (x25 ≤ 255))) w9
        else
          k (.bool false) w9
      else
        k (.bool false) w9
    else
      k (.bool false) w9
  else
    k (.bool false) w9
else
  k (.bool false) w9)
set_option maxRecDepth 100000 in
set_option maxHeartbeats 2000000 in
theorem w10 (c1 : Int) (c2 : Bool) (c3 : Bool) (c4 : Bool) (c5 : Int) (c6 : Int) (w7 : World) (k : Value → World → Prop) (h : F10 c1 c2 c3 c4 c5 c6 w7 k) : Does Try.prog 10 #[.agg #[.int .i64 c1, .bool c2, .bool c3, .bool c4, .int .i64 c5, .int .i64 c6]] w7 k := by
  refine enter 31 Try.func10 rfl rfl rfl ?_
  intro ρ hρ
  have e0 := hρ 0 _ rfl
  unfold F10 at h
  refine WC_seq ?_
  refine WC_region ?_
  have h := New.out h
  refine WL_val gd0 (o_box (v := .agg #[.int .i64 c1, .bool c2, .bool c3, .bool c4, .int .i64 c5, .int .i64 c6]) (cs := [.int .i64 c1, .bool c2, .bool c3, .bool c4, .int .i64 c5, .int .i64 c6]) (by exact e0) rfl) rfl ?_
  generalize hp8 : fresh w7 = p8 at h ⊢
  generalize hw9 : push w7 23 [.int .i64 c1, .bool c2, .bool c3, .bool c4, .int .i64 c5, .int .i64 c6] = w9 at h ⊢
  try dsimp only at h
  refine WL_val gd0 ((o_assign (v := .bool false) rfl) _) rfl ?_
  refine WL_nil ?_
  refine nrm ?_
  refine WC_seq ?_
  refine WC_region ?_
  refine WL_val gd0 ((o_fieldAddr0 Try.underlying23 rfl Try.sizeOf3 rfl rfl rfl) _) rfl ?_
  obtain ⟨x10, hc11, h⟩ := h
  refine WL_val gd0 (o_load Try.isAgg3 rfl hc11) rfl ?_
  refine WL_val gd0 ((o_geq rfl rfl) _) rfl ?_
  refine WL_val gd0 ((o_move (v := .bool (decide (0 ≤ x10))) rfl) _) rfl ?_
  refine bsplit (decide (0 ≤ x10)) (fun hb12 => ?_) (fun hb12 => ?_)
  · rw [if_pos (of_decide_eq_true hb12)] at h
    refine WL_val (gdY (b := (decide (0 ≤ x10))) 6 rfl rfl hb12) ((o_fieldAddr0 Try.underlying23 rfl Try.sizeOf3 rfl rfl rfl) _) rfl ?_
    obtain ⟨x13, hc14, h⟩ := h
    refine WL_val (gdY (b := (decide (0 ≤ x10))) 6 rfl rfl hb12) (o_load Try.isAgg3 rfl hc14) rfl ?_
    refine WL_val (gdY (b := (decide (0 ≤ x10))) 6 rfl rfl hb12) ((o_leq rfl rfl) _) rfl ?_
    refine WL_val gd0 ((o_pickT (v := .bool (decide (x13 ≤ 7))) rfl hb12 rfl) _) rfl ?_
    refine WL_val gd0 ((o_move (v := .bool (decide (x13 ≤ 7))) rfl) _) rfl ?_
    refine bsplit (decide (x13 ≤ 7)) (fun hb15 => ?_) (fun hb15 => ?_)
    · rw [if_pos (of_decide_eq_true hb15)] at h
      refine WL_val (gdY (b := (decide (x13 ≤ 7))) 11 rfl rfl hb15) ((o_fieldAddr 4 Try.underlying23 rfl Try.sizeOf3 rfl rfl rfl) _) rfl ?_
      obtain ⟨x16, hc17, h⟩ := h
      refine WL_val (gdY (b := (decide (x13 ≤ 7))) 11 rfl rfl hb15) (o_load Try.isAgg3 rfl hc17) rfl ?_
      refine WL_val (gdY (b := (decide (x13 ≤ 7))) 11 rfl rfl hb15) ((o_geq rfl rfl) _) rfl ?_
      refine WL_val gd0 ((o_pickT (v := .bool (decide (0 ≤ x16))) rfl hb15 rfl) _) rfl ?_
      refine WL_val gd0 ((o_move (v := .bool (decide (0 ≤ x16))) rfl) _) rfl ?_
      refine bsplit (decide (0 ≤ x16)) (fun hb18 => ?_) (fun hb18 => ?_)
      · rw [if_pos (of_decide_eq_true hb18)] at h
        refine WL_val (gdY (b := (decide (0 ≤ x16))) 16 rfl rfl hb18) ((o_fieldAddr 4 Try.underlying23 rfl Try.sizeOf3 rfl rfl rfl) _) rfl ?_
        obtain ⟨x19, hc20, h⟩ := h
        refine WL_val (gdY (b := (decide (0 ≤ x16))) 16 rfl rfl hb18) (o_load Try.isAgg3 rfl hc20) rfl ?_
        refine WL_val (gdY (b := (decide (0 ≤ x16))) 16 rfl rfl hb18) ((o_leq rfl rfl) _) rfl ?_
        refine WL_val gd0 ((o_pickT (v := .bool (decide (x19 ≤ 3))) rfl hb18 rfl) _) rfl ?_
        refine WL_val gd0 ((o_move (v := .bool (decide (x19 ≤ 3))) rfl) _) rfl ?_
        refine bsplit (decide (x19 ≤ 3)) (fun hb21 => ?_) (fun hb21 => ?_)
        · rw [if_pos (of_decide_eq_true hb21)] at h
          refine WL_val (gdY (b := (decide (x19 ≤ 3))) 21 rfl rfl hb21) ((o_fieldAddr 5 Try.underlying23 rfl Try.sizeOf3 rfl rfl rfl) _) rfl ?_
          obtain ⟨x22, hc23, h⟩ := h
          refine WL_val (gdY (b := (decide (x19 ≤ 3))) 21 rfl rfl hb21) (o_load Try.isAgg3 rfl hc23) rfl ?_
          refine WL_val (gdY (b := (decide (x19 ≤ 3))) 21 rfl rfl hb21) ((o_geq rfl rfl) _) rfl ?_
          refine WL_val gd0 ((o_pickT (v := .bool (decide (0 ≤ x22))) rfl hb21 rfl) _) rfl ?_
          refine WL_val gd0 ((o_move (v := .bool (decide (0 ≤ x22))) rfl) _) rfl ?_
          refine bsplit (decide (0 ≤ x22)) (fun hb24 => ?_) (fun hb24 => ?_)
          · rw [if_pos (of_decide_eq_true hb24)] at h
            refine WL_val (gdY (b := (decide (0 ≤ x22))) 26 rfl rfl hb24) ((o_fieldAddr 5 Try.underlying23 rfl Try.sizeOf3 rfl rfl rfl) _) rfl ?_
            obtain ⟨x25, hc26, h⟩ := h
            refine WL_val (gdY (b := (decide (0 ≤ x22))) 26 rfl rfl hb24) (o_load Try.isAgg3 rfl hc26) rfl ?_
            refine WL_val (gdY (b := (decide (0 ≤ x22))) 26 rfl rfl hb24) ((o_leq rfl rfl) _) rfl ?_
            refine WL_val gd0 ((o_pickT (v := .bool (decide (x25 ≤ 255))) rfl hb24 rfl) _) rfl ?_
            refine WL_val gd0 ((o_assign (v := .bool (decide (x25 ≤ 255))) rfl) _) rfl ?_
            refine WL_nil ?_
            refine nrm ?_
            refine WC_ret ?_
            refine rtE ?_
            exact gv1 rfl rfl h
          · rw [if_neg (of_decide_eq_false hb24)] at h
            refine WL_skip (gdN (b := (decide (0 ≤ x22))) 26 rfl rfl hb24) rfl ?_
            refine WL_skip (gdN (b := (decide (0 ≤ x22))) 26 rfl rfl hb24) rfl ?_
            refine WL_skip (gdN (b := (decide (0 ≤ x22))) 26 rfl rfl hb24) rfl ?_
            refine WL_val gd0 ((o_pickF (v := .bool false) rfl hb24 rfl) _) rfl ?_
            refine WL_val gd0 ((o_assign (v := .bool false) rfl) _) rfl ?_
            refine WL_nil ?_
            refine nrm ?_
            refine WC_ret ?_
            refine rtE ?_
            exact gv1 rfl rfl h
        · rw [if_neg (of_decide_eq_false hb21)] at h
          refine WL_skip (gdN (b := (decide (x19 ≤ 3))) 21 rfl rfl hb21) rfl ?_
          refine WL_skip (gdN (b := (decide (x19 ≤ 3))) 21 rfl rfl hb21) rfl ?_
          refine WL_skip (gdN (b := (decide (x19 ≤ 3))) 21 rfl rfl hb21) rfl ?_
          refine WL_val gd0 ((o_pickF (v := .bool false) rfl hb21 rfl) _) rfl ?_
          refine WL_val gd0 ((o_move (v := .bool false) rfl) _) rfl ?_
          refine WL_skip (gdN (b := false) 26 rfl rfl rfl) rfl ?_
          refine WL_skip (gdN (b := false) 26 rfl rfl rfl) rfl ?_
          refine WL_skip (gdN (b := false) 26 rfl rfl rfl) rfl ?_
          refine WL_val gd0 ((o_pickF (v := .bool false) rfl rfl rfl) _) rfl ?_
          refine WL_val gd0 ((o_assign (v := .bool false) rfl) _) rfl ?_
          refine WL_nil ?_
          refine nrm ?_
          refine WC_ret ?_
          refine rtE ?_
          exact gv1 rfl rfl h
      · rw [if_neg (of_decide_eq_false hb18)] at h
        refine WL_skip (gdN (b := (decide (0 ≤ x16))) 16 rfl rfl hb18) rfl ?_
        refine WL_skip (gdN (b := (decide (0 ≤ x16))) 16 rfl rfl hb18) rfl ?_
        refine WL_skip (gdN (b := (decide (0 ≤ x16))) 16 rfl rfl hb18) rfl ?_
        refine WL_val gd0 ((o_pickF (v := .bool false) rfl hb18 rfl) _) rfl ?_
        refine WL_val gd0 ((o_move (v := .bool false) rfl) _) rfl ?_
        refine WL_skip (gdN (b := false) 21 rfl rfl rfl) rfl ?_
        refine WL_skip (gdN (b := false) 21 rfl rfl rfl) rfl ?_
        refine WL_skip (gdN (b := false) 21 rfl rfl rfl) rfl ?_
        refine WL_val gd0 ((o_pickF (v := .bool false) rfl rfl rfl) _) rfl ?_
        refine WL_val gd0 ((o_move (v := .bool false) rfl) _) rfl ?_
        refine WL_skip (gdN (b := false) 26 rfl rfl rfl) rfl ?_
        refine WL_skip (gdN (b := false) 26 rfl rfl rfl) rfl ?_
        refine WL_skip (gdN (b := false) 26 rfl rfl rfl) rfl ?_
        refine WL_val gd0 ((o_pickF (v := .bool false) rfl rfl rfl) _) rfl ?_
        refine WL_val gd0 ((o_assign (v := .bool false) rfl) _) rfl ?_
        refine WL_nil ?_
        refine nrm ?_
        refine WC_ret ?_
        refine rtE ?_
        exact gv1 rfl rfl h
    · rw [if_neg (of_decide_eq_false hb15)] at h
      refine WL_skip (gdN (b := (decide (x13 ≤ 7))) 11 rfl rfl hb15) rfl ?_
      refine WL_skip (gdN (b := (decide (x13 ≤ 7))) 11 rfl rfl hb15) rfl ?_
      refine WL_skip (gdN (b := (decide (x13 ≤ 7))) 11 rfl rfl hb15) rfl ?_
      refine WL_val gd0 ((o_pickF (v := .bool false) rfl hb15 rfl) _) rfl ?_
      refine WL_val gd0 ((o_move (v := .bool false) rfl) _) rfl ?_
      refine WL_skip (gdN (b := false) 16 rfl rfl rfl) rfl ?_
      refine WL_skip (gdN (b := false) 16 rfl rfl rfl) rfl ?_
      refine WL_skip (gdN (b := false) 16 rfl rfl rfl) rfl ?_
      refine WL_val gd0 ((o_pickF (v := .bool false) rfl rfl rfl) _) rfl ?_
      refine WL_val gd0 ((o_move (v := .bool false) rfl) _) rfl ?_
      refine WL_skip (gdN (b := false) 21 rfl rfl rfl) rfl ?_
      refine WL_skip (gdN (b := false) 21 rfl rfl rfl) rfl ?_
      refine WL_skip (gdN (b := false) 21 rfl rfl rfl) rfl ?_
      refine WL_val gd0 ((o_pickF (v := .bool false) rfl rfl rfl) _) rfl ?_
      refine WL_val gd0 ((o_move (v := .bool false) rfl) _) rfl ?_
      refine WL_skip (gdN (b := false) 26 rfl rfl rfl) rfl ?_
      refine WL_skip (gdN (b := false) 26 rfl rfl rfl) rfl ?_
      refine WL_skip (gdN (b := false) 26 rfl rfl rfl) rfl ?_
      refine WL_val gd0 ((o_pickF (v := .bool false) rfl rfl rfl) _) rfl ?_
      refine WL_val gd0 ((o_assign (v := .bool false) rfl) _) rfl ?_
      refine WL_nil ?_
      refine nrm ?_
      refine WC_ret ?_
      refine rtE ?_
      exact gv1 rfl rfl h
  · rw [if_neg (of_decide_eq_false hb12)] at h
    refine WL_skip (gdN (b := (decide (0 ≤ x10))) 6 rfl rfl hb12) rfl ?_
    refine WL_skip (gdN (b := (decide (0 ≤ x10))) 6 rfl rfl hb12) rfl ?_
    refine WL_skip (gdN (b := (decide (0 ≤ x10))) 6 rfl rfl hb12) rfl ?_
    refine WL_val gd0 ((o_pickF (v := .bool false) rfl hb12 rfl) _) rfl ?_
    refine WL_val gd0 ((o_move (v := .bool false) rfl) _) rfl ?_
    refine WL_skip (gdN (b := false) 11 rfl rfl rfl) rfl ?_
    refine WL_skip (gdN (b := false) 11 rfl rfl rfl) rfl ?_
    refine WL_skip (gdN (b := false) 11 rfl rfl rfl) rfl ?_
    refine WL_val gd0 ((o_pickF (v := .bool false) rfl rfl rfl) _) rfl ?_
    refine WL_val gd0 ((o_move (v := .bool false) rfl) _) rfl ?_
    refine WL_skip (gdN (b := false) 16 rfl rfl rfl) rfl ?_
    refine WL_skip (gdN (b := false) 16 rfl rfl rfl) rfl ?_
    refine WL_skip (gdN (b := false) 16 rfl rfl rfl) rfl ?_
    refine WL_val gd0 ((o_pickF (v := .bool false) rfl rfl rfl) _) rfl ?_
    refine WL_val gd0 ((o_move (v := .bool false) rfl) _) rfl ?_
    refine WL_skip (gdN (b := false) 21 rfl rfl rfl) rfl ?_
    refine WL_skip (gdN (b := false) 21 rfl rfl rfl) rfl ?_
    refine WL_skip (gdN (b := false) 21 rfl rfl rfl) rfl ?_
    refine WL_val gd0 ((o_pickF (v := .bool false) rfl rfl rfl) _) rfl ?_
    refine WL_val gd0 ((o_move (v := .bool false) rfl) _) rfl ?_
    refine WL_skip (gdN (b := false) 26 rfl rfl rfl) rfl ?_
    refine WL_skip (gdN (b := false) 26 rfl rfl rfl) rfl ?_
    refine WL_skip (gdN (b := false) 26 rfl rfl rfl) rfl ?_
    refine WL_val gd0 ((o_pickF (v := .bool false) rfl rfl rfl) _) rfl ?_
    refine WL_val gd0 ((o_assign (v := .bool false) rfl) _) rfl ?_
    refine WL_nil ?_
    refine nrm ?_
    refine WC_ret ?_
    refine rtE ?_
    exact gv1 rfl rfl h

/-- spacecraft spacecraftlaw15.alive -/
def F11 (w1 : World) (k : Value → World → Prop) : Prop :=
  Does Try.prog 7 #[.agg #[.int .i64 3, .bool false, .bool true, .bool false, .int .i64 2, .int .i64 200]] w1 (fun v w2 => ∃ (r_a3 : Option Addr) (r_n4 r_c5 : Nat) (r6 : Int), v = .tuple #[.slice r_a3 r_n4 r_c5, .int .i64 r6] ∧ Does Try.prog 7 #[.agg #[.int .i64 0, .bool false, .bool false, .bool false, .int .i64 0, .int .i64 0]] w2 (fun v w7 => ∃ (r_a8 : Option Addr) (r_n9 r_c10 : Nat) (r11 : Int), v = .tuple #[.slice r_a8 r_n9 r_c10, .int .i64 r11] ∧ Does Try.prog 12 #[.slice r_a3 r_n4 r_c5] w7 (fun v w12 => ∃ (r13 : Int) (r14 r15 r16 : Bool) (r17 r18 r19 : Int), v = .tuple #[.agg #[.int .i64 r13, .bool r14, .bool r15, .bool r16, .int .i64 r17, .int .i64 r18], .int .i64 r19] ∧ New w12 23 [.int .i64 0, .bool false, .bool false, .bool false, .int .i64 0, .int .i64 0] (fun p20 w21 => PutAll w21 p20 [.int .i64 r13, .bool r14, .bool r15, .bool r16, .int .i64 r17, .int .i64 r18] (fun w22 => if r6 = 0 then
  if r11 = 0 then
    if r19 = 0 then
      ∃ (s27 : ByteArray), (Conv.bytesToString (.slice r_a3 r_n4 r_c5)).run Try.prog w22 = .ok (.string s27) w22 ∧ if (s27.toList == (ByteArray.mk #[1, 12, 20, 200]).toList) = true then
        ∃ (s30 : ByteArray), (Conv.bytesToString (.slice r_a8 r_n9 r_c10)).run Try.prog w22 = .ok (.string s30) w22 ∧ if (s30.toList == (ByteArray.mk #[1, 0, 0, 0]).toList) = true then
          ∃ (x33 : Int) (x34 x35 x36 : Bool) (x37 x38 : Int), Cells w22 p20 0 [.int .i64 x33, .bool x34, .bool x35, .bool x36, .int .i64 x37, .int .i64 x38] ∧ ∃ (eq40 : Bool), (∀ w d, (Op.equalIn (d + 5) 23 (.agg #[.int .i64 x33, .bool x34, .bool x35, .bool x36, .int .i64 x37, .int .i64 x38]) (.agg #[.int .i64 3, .bool false, .bool true, .bool false, .int .i64 2, .int .i64 200])).run Try.prog w = .ok eq40 w) ∧ k (.bool eq40) w22
        else
          k (.bool false) w22
      else
        k (.bool false) w22
    else
      k (.bool false) w22
  else
    k (.bool false) w22
else
  k (.bool false) w22)))))
set_option maxRecDepth 100000 in
set_option maxHeartbeats 2000000 in
theorem w11 (w1 : World) (k : Value → World → Prop) (h : F11 w1 k) : Does Try.prog 11 #[] w1 k := by
  refine enter 47 Try.func11 rfl rfl rfl ?_
  intro ρ hρ
  unfold F11 at h
  refine WC_seq ?_
  refine WC_region ?_
  refine WL_val gd0 ((o_assign (v := .bool false) rfl) _) rfl ?_
  refine WL_nil ?_
  refine nrm ?_
  refine WC_seq ?_
  refine WC_region ?_
  refine WL_val gd0 ((o_build (ps := [(0, .int .i64 3), (2, .bool true), (4, .int .i64 2), (5, .int .i64 200)]) (v := .agg #[.int .i64 3, .bool false, .bool true, .bool false, .int .i64 2, .int .i64 200]) (partCons rfl (partCons rfl (partCons rfl (partCons rfl partNil)))) (fun w => by kernel_rfl)) _) rfl ?_
  refine WL_call gd0 (o_call Try.call7 (argCons rfl argNil) _) rfl (h.mono ?_)
  rintro _ w2 ⟨r_a3, r_n4, r_c5, r6, rfl, h⟩
  refine WL_val gd0 ((o_move (v := .tuple #[.slice r_a3 r_n4 r_c5, .int .i64 r6]) rfl) _) rfl ?_
  refine WL_val gd0 ((o_extract (vs := [.slice r_a3 r_n4 r_c5, .int .i64 r6]) (r := .slice r_a3 r_n4 r_c5) rfl rfl) _) rfl ?_
  refine WL_val gd0 ((o_extract (vs := [.slice r_a3 r_n4 r_c5, .int .i64 r6]) (r := .int .i64 r6) rfl rfl) _) rfl ?_
  refine WL_val gd0 ((o_assign (v := .slice r_a3 r_n4 r_c5) rfl) _) rfl ?_
  refine WL_val gd0 ((o_assign (v := .int .i64 r6) rfl) _) rfl ?_
  refine WL_nil ?_
  refine nrm ?_
  refine WC_seq ?_
  refine WC_region ?_
  refine WL_val gd0 ((o_build (ps := []) (v := .agg #[.int .i64 0, .bool false, .bool false, .bool false, .int .i64 0, .int .i64 0]) partNil (fun w => by kernel_rfl)) _) rfl ?_
  refine WL_call gd0 (o_call Try.call7 (argCons rfl argNil) _) rfl (h.mono ?_)
  rintro _ w7 ⟨r_a8, r_n9, r_c10, r11, rfl, h⟩
  refine WL_val gd0 ((o_move (v := .tuple #[.slice r_a8 r_n9 r_c10, .int .i64 r11]) rfl) _) rfl ?_
  refine WL_val gd0 ((o_extract (vs := [.slice r_a8 r_n9 r_c10, .int .i64 r11]) (r := .slice r_a8 r_n9 r_c10) rfl rfl) _) rfl ?_
  refine WL_val gd0 ((o_extract (vs := [.slice r_a8 r_n9 r_c10, .int .i64 r11]) (r := .int .i64 r11) rfl rfl) _) rfl ?_
  refine WL_val gd0 ((o_assign (v := .slice r_a8 r_n9 r_c10) rfl) _) rfl ?_
  refine WL_val gd0 ((o_assign (v := .int .i64 r11) rfl) _) rfl ?_
  refine WL_nil ?_
  refine nrm ?_
  refine WC_seq ?_
  refine WC_region ?_
  refine WL_val gd0 ((o_move (v := .slice r_a3 r_n4 r_c5) rfl) _) rfl ?_
  refine WL_call gd0 (o_call Try.call12 (argCons rfl argNil) _) rfl (h.mono ?_)
  rintro _ w12 ⟨r13, r14, r15, r16, r17, r18, r19, rfl, h⟩
  refine WL_val gd0 ((o_move (v := .tuple #[.agg #[.int .i64 r13, .bool r14, .bool r15, .bool r16, .int .i64 r17, .int .i64 r18], .int .i64 r19]) rfl) _) rfl ?_
  refine WL_val gd0 ((o_extract (vs := [.agg #[.int .i64 r13, .bool r14, .bool r15, .bool r16, .int .i64 r17, .int .i64 r18], .int .i64 r19]) (r := .agg #[.int .i64 r13, .bool r14, .bool r15, .bool r16, .int .i64 r17, .int .i64 r18]) rfl rfl) _) rfl ?_
  refine WL_val gd0 ((o_extract (vs := [.agg #[.int .i64 r13, .bool r14, .bool r15, .bool r16, .int .i64 r17, .int .i64 r18], .int .i64 r19]) (r := .int .i64 r19) rfl rfl) _) rfl ?_
  have h := New.out h
  refine WL_val gd0 (o_alloc (z := .agg #[.int .i64 0, .bool false, .bool false, .bool false, .int .i64 0, .int .i64 0]) (cs := [.int .i64 0, .bool false, .bool false, .bool false, .int .i64 0, .int .i64 0]) Try.zeroValue23 rfl) rfl ?_
  generalize hp20 : fresh w12 = p20 at h ⊢
  generalize hw21 : push w12 23 [.int .i64 0, .bool false, .bool false, .bool false, .int .i64 0, .int .i64 0] = w21 at h ⊢
  try dsimp only at h
  obtain ⟨c23, h⟩ := h
  refine WL_act gd0 (o_storeAgg (vs := [.int .i64 r13, .bool r14, .bool r15, .bool r16, .int .i64 r17, .int .i64 r18]) Try.sizeOf23 rfl rfl rfl c23) ?_
  generalize hw22 : setAll w21 p20 0 [.int .i64 r13, .bool r14, .bool r15, .bool r16, .int .i64 r17, .int .i64 r18] = w22 at h ⊢
  try dsimp only at h
  refine WL_val gd0 ((o_assign (v := .int .i64 r19) rfl) _) rfl ?_
  refine WL_nil ?_
  refine nrm ?_
  refine WC_seq ?_
  refine WC_region ?_
  refine WL_val gd0 ((o_move (v := .int .i64 r6) rfl) _) rfl ?_
  refine WL_val gd0 ((o_eql rfl rfl) _) rfl ?_
  refine WL_val gd0 ((o_move (v := .bool (decide (r6 = 0))) rfl) _) rfl ?_
  refine bsplit (decide (r6 = 0)) (fun hb24 => ?_) (fun hb24 => ?_)
  · rw [if_pos (of_decide_eq_true hb24)] at h
    refine WL_val (gdY (b := (decide (r6 = 0))) 24 rfl rfl hb24) ((o_move (v := .int .i64 r11) rfl) _) rfl ?_
    refine WL_val (gdY (b := (decide (r6 = 0))) 24 rfl rfl hb24) ((o_eql rfl rfl) _) rfl ?_
    refine WL_val gd0 ((o_pickT (v := .bool (decide (r11 = 0))) rfl hb24 rfl) _) rfl ?_
    refine WL_val gd0 ((o_move (v := .bool (decide (r11 = 0))) rfl) _) rfl ?_
    refine bsplit (decide (r11 = 0)) (fun hb25 => ?_) (fun hb25 => ?_)
    · rw [if_pos (of_decide_eq_true hb25)] at h
      refine WL_val (gdY (b := (decide (r11 = 0))) 28 rfl rfl hb25) ((o_move (v := .int .i64 r19) rfl) _) rfl ?_
      refine WL_val (gdY (b := (decide (r11 = 0))) 28 rfl rfl hb25) ((o_eql rfl rfl) _) rfl ?_
      refine WL_val gd0 ((o_pickT (v := .bool (decide (r19 = 0))) rfl hb25 rfl) _) rfl ?_
      refine WL_val gd0 ((o_move (v := .bool (decide (r19 = 0))) rfl) _) rfl ?_
      refine bsplit (decide (r19 = 0)) (fun hb26 => ?_) (fun hb26 => ?_)
      · rw [if_pos (of_decide_eq_true hb26)] at h
        refine WL_val (gdY (b := (decide (r19 = 0))) 32 rfl rfl hb26) ((o_move (v := .slice r_a3 r_n4 r_c5) rfl) _) rfl ?_
        obtain ⟨s27, r28, h⟩ := h
        refine WL_val (gdY (b := (decide (r19 = 0))) 32 rfl rfl hb26) (o_toStr Try.underlying24 Try.underlying5 Try.underlying9 rfl r28) rfl ?_
        refine WL_val (gdY (b := (decide (r19 = 0))) 32 rfl rfl hb26) ((o_eqlStr rfl rfl) _) rfl ?_
        refine WL_val gd0 ((o_pickT (v := .bool (s27.toList == (ByteArray.mk #[1, 12, 20, 200]).toList)) rfl hb26 rfl) _) rfl ?_
        refine WL_val gd0 ((o_move (v := .bool (s27.toList == (ByteArray.mk #[1, 12, 20, 200]).toList)) rfl) _) rfl ?_
        refine bsplit (s27.toList == (ByteArray.mk #[1, 12, 20, 200]).toList) (fun hb29 => ?_) (fun hb29 => ?_)
        · rw [if_pos hb29] at h
          refine WL_val (gdY (b := (s27.toList == (ByteArray.mk #[1, 12, 20, 200]).toList)) 37 rfl rfl hb29) ((o_move (v := .slice r_a8 r_n9 r_c10) rfl) _) rfl ?_
          obtain ⟨s30, r31, h⟩ := h
          refine WL_val (gdY (b := (s27.toList == (ByteArray.mk #[1, 12, 20, 200]).toList)) 37 rfl rfl hb29) (o_toStr Try.underlying24 Try.underlying5 Try.underlying9 rfl r31) rfl ?_
          refine WL_val (gdY (b := (s27.toList == (ByteArray.mk #[1, 12, 20, 200]).toList)) 37 rfl rfl hb29) ((o_eqlStr rfl rfl) _) rfl ?_
          refine WL_val gd0 ((o_pickT (v := .bool (s30.toList == (ByteArray.mk #[1, 0, 0, 0]).toList)) rfl hb29 rfl) _) rfl ?_
          refine WL_val gd0 ((o_move (v := .bool (s30.toList == (ByteArray.mk #[1, 0, 0, 0]).toList)) rfl) _) rfl ?_
          refine bsplit (s30.toList == (ByteArray.mk #[1, 0, 0, 0]).toList) (fun hb32 => ?_) (fun hb32 => ?_)
          · rw [if_pos hb32] at h
            obtain ⟨x33, x34, x35, x36, x37, x38, hc39, h⟩ := h
            refine WL_val (gdY (b := (s30.toList == (ByteArray.mk #[1, 0, 0, 0]).toList)) 42 rfl rfl hb32) (o_loadAgg (vs := [.int .i64 x33, .bool x34, .bool x35, .bool x36, .int .i64 x37, .int .i64 x38]) Try.isAgg23 Try.sizeOf23 rfl hc39) rfl ?_
            refine WL_val (gdY (b := (s30.toList == (ByteArray.mk #[1, 0, 0, 0]).toList)) 42 rfl rfl hb32) ((o_build (ps := [(0, .int .i64 3), (2, .bool true), (4, .int .i64 2), (5, .int .i64 200)]) (v := .agg #[.int .i64 3, .bool false, .bool true, .bool false, .int .i64 2, .int .i64 200]) (partCons rfl (partCons rfl (partCons rfl (partCons rfl partNil)))) (fun w => by kernel_rfl)) _) rfl ?_
            obtain ⟨eq40, c41, h⟩ := h
            refine WL_val (gdY (b := (s30.toList == (ByteArray.mk #[1, 0, 0, 0]).toList)) 42 rfl rfl hb32) ((o_eqlAgg (xs := #[.int .i64 x33, .bool x34, .bool x35, .bool x36, .int .i64 x37, .int .i64 x38]) (ys := #[.int .i64 3, .bool false, .bool true, .bool false, .int .i64 2, .int .i64 200]) Try.eqGuardType23 rfl rfl c41) _) rfl ?_
            refine WL_val gd0 ((o_pickT (v := .bool eq40) rfl hb32 rfl) _) rfl ?_
            refine WL_val gd0 ((o_assign (v := .bool eq40) rfl) _) rfl ?_
            refine WL_nil ?_
            refine nrm ?_
            refine WC_ret ?_
            refine rtE ?_
            exact gv1 rfl rfl h
          · rw [if_neg (neT hb32)] at h
            refine WL_skip (gdN (b := (s30.toList == (ByteArray.mk #[1, 0, 0, 0]).toList)) 42 rfl rfl hb32) rfl ?_
            refine WL_skip (gdN (b := (s30.toList == (ByteArray.mk #[1, 0, 0, 0]).toList)) 42 rfl rfl hb32) rfl ?_
            refine WL_skip (gdN (b := (s30.toList == (ByteArray.mk #[1, 0, 0, 0]).toList)) 42 rfl rfl hb32) rfl ?_
            refine WL_val gd0 ((o_pickF (v := .bool false) rfl hb32 rfl) _) rfl ?_
            refine WL_val gd0 ((o_assign (v := .bool false) rfl) _) rfl ?_
            refine WL_nil ?_
            refine nrm ?_
            refine WC_ret ?_
            refine rtE ?_
            exact gv1 rfl rfl h
        · rw [if_neg (neT hb29)] at h
          refine WL_skip (gdN (b := (s27.toList == (ByteArray.mk #[1, 12, 20, 200]).toList)) 37 rfl rfl hb29) rfl ?_
          refine WL_skip (gdN (b := (s27.toList == (ByteArray.mk #[1, 12, 20, 200]).toList)) 37 rfl rfl hb29) rfl ?_
          refine WL_skip (gdN (b := (s27.toList == (ByteArray.mk #[1, 12, 20, 200]).toList)) 37 rfl rfl hb29) rfl ?_
          refine WL_val gd0 ((o_pickF (v := .bool false) rfl hb29 rfl) _) rfl ?_
          refine WL_val gd0 ((o_move (v := .bool false) rfl) _) rfl ?_
          refine WL_skip (gdN (b := false) 42 rfl rfl rfl) rfl ?_
          refine WL_skip (gdN (b := false) 42 rfl rfl rfl) rfl ?_
          refine WL_skip (gdN (b := false) 42 rfl rfl rfl) rfl ?_
          refine WL_val gd0 ((o_pickF (v := .bool false) rfl rfl rfl) _) rfl ?_
          refine WL_val gd0 ((o_assign (v := .bool false) rfl) _) rfl ?_
          refine WL_nil ?_
          refine nrm ?_
          refine WC_ret ?_
          refine rtE ?_
          exact gv1 rfl rfl h
      · rw [if_neg (of_decide_eq_false hb26)] at h
        refine WL_skip (gdN (b := (decide (r19 = 0))) 32 rfl rfl hb26) rfl ?_
        refine WL_skip (gdN (b := (decide (r19 = 0))) 32 rfl rfl hb26) rfl ?_
        refine WL_skip (gdN (b := (decide (r19 = 0))) 32 rfl rfl hb26) rfl ?_
        refine WL_val gd0 ((o_pickF (v := .bool false) rfl hb26 rfl) _) rfl ?_
        refine WL_val gd0 ((o_move (v := .bool false) rfl) _) rfl ?_
        refine WL_skip (gdN (b := false) 37 rfl rfl rfl) rfl ?_
        refine WL_skip (gdN (b := false) 37 rfl rfl rfl) rfl ?_
        refine WL_skip (gdN (b := false) 37 rfl rfl rfl) rfl ?_
        refine WL_val gd0 ((o_pickF (v := .bool false) rfl rfl rfl) _) rfl ?_
        refine WL_val gd0 ((o_move (v := .bool false) rfl) _) rfl ?_
        refine WL_skip (gdN (b := false) 42 rfl rfl rfl) rfl ?_
        refine WL_skip (gdN (b := false) 42 rfl rfl rfl) rfl ?_
        refine WL_skip (gdN (b := false) 42 rfl rfl rfl) rfl ?_
        refine WL_val gd0 ((o_pickF (v := .bool false) rfl rfl rfl) _) rfl ?_
        refine WL_val gd0 ((o_assign (v := .bool false) rfl) _) rfl ?_
        refine WL_nil ?_
        refine nrm ?_
        refine WC_ret ?_
        refine rtE ?_
        exact gv1 rfl rfl h
    · rw [if_neg (of_decide_eq_false hb25)] at h
      refine WL_skip (gdN (b := (decide (r11 = 0))) 28 rfl rfl hb25) rfl ?_
      refine WL_skip (gdN (b := (decide (r11 = 0))) 28 rfl rfl hb25) rfl ?_
      refine WL_val gd0 ((o_pickF (v := .bool false) rfl hb25 rfl) _) rfl ?_
      refine WL_val gd0 ((o_move (v := .bool false) rfl) _) rfl ?_
      refine WL_skip (gdN (b := false) 32 rfl rfl rfl) rfl ?_
      refine WL_skip (gdN (b := false) 32 rfl rfl rfl) rfl ?_
      refine WL_skip (gdN (b := false) 32 rfl rfl rfl) rfl ?_
      refine WL_val gd0 ((o_pickF (v := .bool false) rfl rfl rfl) _) rfl ?_
      refine WL_val gd0 ((o_move (v := .bool false) rfl) _) rfl ?_
      refine WL_skip (gdN (b := false) 37 rfl rfl rfl) rfl ?_
      refine WL_skip (gdN (b := false) 37 rfl rfl rfl) rfl ?_
      refine WL_skip (gdN (b := false) 37 rfl rfl rfl) rfl ?_
      refine WL_val gd0 ((o_pickF (v := .bool false) rfl rfl rfl) _) rfl ?_
      refine WL_val gd0 ((o_move (v := .bool false) rfl) _) rfl ?_
      refine WL_skip (gdN (b := false) 42 rfl rfl rfl) rfl ?_
      refine WL_skip (gdN (b := false) 42 rfl rfl rfl) rfl ?_
      refine WL_skip (gdN (b := false) 42 rfl rfl rfl) rfl ?_
      refine WL_val gd0 ((o_pickF (v := .bool false) rfl rfl rfl) _) rfl ?_
      refine WL_val gd0 ((o_assign (v := .bool false) rfl) _) rfl ?_
      refine WL_nil ?_
      refine nrm ?_
      refine WC_ret ?_
      refine rtE ?_
      exact gv1 rfl rfl h
  · rw [if_neg (of_decide_eq_false hb24)] at h
    refine WL_skip (gdN (b := (decide (r6 = 0))) 24 rfl rfl hb24) rfl ?_
    refine WL_skip (gdN (b := (decide (r6 = 0))) 24 rfl rfl hb24) rfl ?_
    refine WL_val gd0 ((o_pickF (v := .bool false) rfl hb24 rfl) _) rfl ?_
    refine WL_val gd0 ((o_move (v := .bool false) rfl) _) rfl ?_
    refine WL_skip (gdN (b := false) 28 rfl rfl rfl) rfl ?_
    refine WL_skip (gdN (b := false) 28 rfl rfl rfl) rfl ?_
    refine WL_val gd0 ((o_pickF (v := .bool false) rfl rfl rfl) _) rfl ?_
    refine WL_val gd0 ((o_move (v := .bool false) rfl) _) rfl ?_
    refine WL_skip (gdN (b := false) 32 rfl rfl rfl) rfl ?_
    refine WL_skip (gdN (b := false) 32 rfl rfl rfl) rfl ?_
    refine WL_skip (gdN (b := false) 32 rfl rfl rfl) rfl ?_
    refine WL_val gd0 ((o_pickF (v := .bool false) rfl rfl rfl) _) rfl ?_
    refine WL_val gd0 ((o_move (v := .bool false) rfl) _) rfl ?_
    refine WL_skip (gdN (b := false) 37 rfl rfl rfl) rfl ?_
    refine WL_skip (gdN (b := false) 37 rfl rfl rfl) rfl ?_
    refine WL_skip (gdN (b := false) 37 rfl rfl rfl) rfl ?_
    refine WL_val gd0 ((o_pickF (v := .bool false) rfl rfl rfl) _) rfl ?_
    refine WL_val gd0 ((o_move (v := .bool false) rfl) _) rfl ?_
    refine WL_skip (gdN (b := false) 42 rfl rfl rfl) rfl ?_
    refine WL_skip (gdN (b := false) 42 rfl rfl rfl) rfl ?_
    refine WL_skip (gdN (b := false) 42 rfl rfl rfl) rfl ?_
    refine WL_val gd0 ((o_pickF (v := .bool false) rfl rfl rfl) _) rfl ?_
    refine WL_val gd0 ((o_assign (v := .bool false) rfl) _) rfl ?_
    refine WL_nil ?_
    refine nrm ?_
    refine WC_ret ?_
    refine rtE ?_
    exact gv1 rfl rfl h

def F12_j1 (p5 : Addr) (p32 : Addr) (t73 : Bool) (w74 : World) (k : Value → World → Prop) : Prop :=
  if t73 = true then
  PutAll w74 p5 [.int .i64 0, .bool false, .bool false, .bool false, .int .i64 0, .int .i64 0] (fun w76 => ∃ (r78 : Int) (r79 r80 r81 : Bool) (r82 r83 : Int), Cells w76 p5 0 [.int .i64 r78, .bool r79, .bool r80, .bool r81, .int .i64 r82, .int .i64 r83] ∧ k (.tuple #[.agg #[.int .i64 r78, .bool r79, .bool r80, .bool r81, .int .i64 r82, .int .i64 r83], .int .i64 4]) w76)
else
  ∃ (x85 : Int) (x86 x87 x88 : Bool) (x89 x90 : Int), Cells w74 p32 0 [.int .i64 x85, .bool x86, .bool x87, .bool x88, .int .i64 x89, .int .i64 x90] ∧ PutAll w74 p5 [.int .i64 x85, .bool x86, .bool x87, .bool x88, .int .i64 x89, .int .i64 x90] (fun w92 => ∃ (r94 : Int) (r95 r96 r97 : Bool) (r98 r99 : Int), Cells w92 p5 0 [.int .i64 r94, .bool r95, .bool r96, .bool r97, .int .i64 r98, .int .i64 r99] ∧ k (.tuple #[.agg #[.int .i64 r94, .bool r95, .bool r96, .bool r97, .int .i64 r98, .int .i64 r99], .int .i64 0]) w92)
/-- spacecraft clcw.Decode -/
def F12 (b_a1 : Option Addr) (b_n2 : Nat) (b_c3 : Nat) (w4 : World) (k : Value → World → Prop) : Prop :=
  New w4 23 [.int .i64 0, .bool false, .bool false, .bool false, .int .i64 0, .int .i64 0] (fun p5 w6 => if (b_n2 : Int) < 4 then
  PutAll w6 p5 [.int .i64 0, .bool false, .bool false, .bool false, .int .i64 0, .int .i64 0] (fun w8 => ∃ (r10 : Int) (r11 r12 r13 : Bool) (r14 r15 : Int), Cells w8 p5 0 [.int .i64 r10, .bool r11, .bool r12, .bool r13, .int .i64 r14, .int .i64 r15] ∧ k (.tuple #[.agg #[.int .i64 r10, .bool r11, .bool r12, .bool r13, .int .i64 r14, .int .i64 r15], .int .i64 3]) w8)
else
  if 4 < (b_n2 : Int) then
    PutAll w6 p5 [.int .i64 0, .bool false, .bool false, .bool false, .int .i64 0, .int .i64 0] (fun w18 => ∃ (r20 : Int) (r21 r22 r23 : Bool) (r24 r25 : Int), Cells w18 p5 0 [.int .i64 r20, .bool r21, .bool r22, .bool r23, .int .i64 r24, .int .i64 r25] ∧ k (.tuple #[.agg #[.int .i64 r20, .bool r21, .bool r22, .bool r23, .int .i64 r24, .int .i64 r25], .int .i64 6]) w18)
  else
    Does Try.prog 19 #[.slice b_a1 b_n2 b_c3] w6 (fun v w27 => ∃ (r28 : Option Addr), v = .pointer r28 ∧ Does Try.prog 20 #[.pointer r28, .int .i64 8] w27 (fun v w29 => v = .tuple #[] ∧ Does Try.prog 21 #[.pointer r28, .int .i64 6] w29 (fun v w30 => ∃ (x31 : Int), v = .int .u64 x31 ∧ New w30 23 [.int .i64 0, .bool false, .bool false, .bool false, .int .i64 0, .int .i64 0] (fun p32 w33 => PutAll w33 p32 [.int .i64 (IntKind.i64.wrap x31), .bool false, .bool false, .bool false, .int .i64 0, .int .i64 0] (fun w34 => Does Try.prog 20 #[.pointer r28, .int .i64 4] w34 (fun v w36 => v = .tuple #[] ∧ Does Try.prog 21 #[.pointer r28, .int .i64 1] w36 (fun v w37 => ∃ (x38 : Int), v = .int .u64 x38 ∧ Put w37 (p32.add 1) (.bool (decide (x38 = 1))) (fun w39 => Does Try.prog 21 #[.pointer r28, .int .i64 1] w39 (fun v w41 => ∃ (x42 : Int), v = .int .u64 x42 ∧ Put w41 (p32.add 2) (.bool (decide (x42 = 1))) (fun w43 => Does Try.prog 21 #[.pointer r28, .int .i64 1] w43 (fun v w45 => ∃ (x46 : Int), v = .int .u64 x46 ∧ Put w45 (p32.add 3) (.bool (decide (x46 = 1))) (fun w47 => Does Try.prog 21 #[.pointer r28, .int .i64 2] w47 (fun v w49 => ∃ (x50 : Int), v = .int .u64 x50 ∧ Put w49 (p32.add 4) (.int .i64 (IntKind.i64.wrap x50)) (fun w51 => Does Try.prog 20 #[.pointer r28, .int .i64 1] w51 (fun v w53 => v = .tuple #[] ∧ Does Try.prog 21 #[.pointer r28, .int .i64 8] w53 (fun v w54 => ∃ (x55 : Int), v = .int .u64 x55 ∧ Put w54 (p32.add 5) (.int .i64 (IntKind.i64.wrap x55)) (fun w56 => ∃ (x58 : Int) (x59 x60 x61 : Bool) (x62 x63 : Int), Cells w56 p32 0 [.int .i64 x58, .bool x59, .bool x60, .bool x61, .int .i64 x62, .int .i64 x63] ∧ Does Try.prog 7 #[.agg #[.int .i64 x58, .bool x59, .bool x60, .bool x61, .int .i64 x62, .int .i64 x63]] w56 (fun v w65 => ∃ (r_a66 : Option Addr) (r_n67 r_c68 : Nat) (r69 : Int), v = .tuple #[.slice r_a66 r_n67 r_c68, .int .i64 r69] ∧ if r69 ≠ 0 then
      F12_j1 p5 p32 true w65 k
    else
      Does Try.prog 22 #[.slice r_a66 r_n67 r_c68, .slice b_a1 b_n2 b_c3] w65 (fun v w102 => ∃ (x103 : Bool), v = .bool x103 ∧ F12_j1 p5 p32 (!x103) w102 k))))))))))))))))))))
set_option maxRecDepth 100000 in
set_option maxHeartbeats 2000000 in
theorem w12 (b_a1 : Option Addr) (b_n2 : Nat) (b_c3 : Nat) (w4 : World) (k : Value → World → Prop) (h : F12 b_a1 b_n2 b_c3 w4 k) : Does Try.prog 12 #[.slice b_a1 b_n2 b_c3] w4 k := by
  refine enter 65 Try.func12 rfl rfl rfl ?_
  intro ρ hρ
  have e0 := hρ 0 _ rfl
  unfold F12 at h
  refine WC_seq ?_
  refine WC_region ?_
  have h := New.out h
  refine WL_val gd0 (o_alloc (z := .agg #[.int .i64 0, .bool false, .bool false, .bool false, .int .i64 0, .int .i64 0]) (cs := [.int .i64 0, .bool false, .bool false, .bool false, .int .i64 0, .int .i64 0]) Try.zeroValue23 rfl) rfl ?_
  generalize hp5 : fresh w4 = p5 at h ⊢
  generalize hw6 : push w4 23 [.int .i64 0, .bool false, .bool false, .bool false, .int .i64 0, .int .i64 0] = w6 at h ⊢
  try dsimp only at h
  refine WL_val gd0 ((o_assign (v := .int .i64 0) rfl) _) rfl ?_
  refine WL_nil ?_
  refine nrm ?_
  refine WC_seq ?_
  refine WC_block ?_
  refine WC_seq ?_
  refine WC_region ?_
  refine WL_val gd0 ((o_move (v := .slice b_a1 b_n2 b_c3) (by exact e0)) _) rfl ?_
  refine WL_val gd0 ((o_len Try.underlying24 rfl) _) rfl ?_
  refine WL_val gd0 ((o_lss rfl rfl) _) rfl ?_
  refine WL_val gd0 ((o_assign (v := .bool (decide ((b_n2 : Int) < 4))) rfl) _) rfl ?_
  refine WL_nil ?_
  refine nrm ?_
  refine WC_cond (t := (decide ((b_n2 : Int) < 4))) rfl (fun hb7 => ?_) (fun hb7 => ?_)
  · rw [if_pos (of_decide_eq_true hb7)] at h
    refine WC_seq ?_
    refine WC_region ?_
    refine WL_val gd0 ((o_build (ps := []) (v := .agg #[.int .i64 0, .bool false, .bool false, .bool false, .int .i64 0, .int .i64 0]) partNil (fun w => by kernel_rfl)) _) rfl ?_
    obtain ⟨c9, h⟩ := h
    refine WL_act gd0 (o_storeAgg (vs := [.int .i64 0, .bool false, .bool false, .bool false, .int .i64 0, .int .i64 0]) Try.sizeOf23 rfl rfl rfl c9) ?_
    generalize hw8 : setAll w6 p5 0 [.int .i64 0, .bool false, .bool false, .bool false, .int .i64 0, .int .i64 0] = w8 at h ⊢
    try dsimp only at h
    refine WL_val gd0 ((o_assign (v := .int .i64 3) rfl) _) rfl ?_
    refine WL_nil ?_
    refine nrm ?_
    refine WC_ret ?_
    refine rtB ?_
    refine rtT ?_
    refine rtE ?_
    obtain ⟨r10, r11, r12, r13, r14, r15, hc16, h⟩ := h
    exact gvC1 (vs := [.int .i64 r10, .bool r11, .bool r12, .bool r13, .int .i64 r14, .int .i64 r15]) rfl Try.isAgg23 Try.sizeOf23 rfl hc16 rfl h
  · rw [if_neg (of_decide_eq_false hb7)] at h
    refine WC_seq ?_
    refine WC_region ?_
    refine WL_val gd0 ((o_move (v := .slice b_a1 b_n2 b_c3) (by exact e0)) _) rfl ?_
    refine WL_val gd0 ((o_len Try.underlying24 rfl) _) rfl ?_
    refine WL_val gd0 ((o_gtr rfl rfl) _) rfl ?_
    refine WL_val gd0 ((o_assign (v := .bool (decide (4 < (b_n2 : Int)))) rfl) _) rfl ?_
    refine WL_nil ?_
    refine nrm ?_
    refine WC_cond (t := (decide (4 < (b_n2 : Int)))) rfl (fun hb17 => ?_) (fun hb17 => ?_)
    · rw [if_pos (of_decide_eq_true hb17)] at h
      refine WC_seq ?_
      refine WC_region ?_
      refine WL_val gd0 ((o_build (ps := []) (v := .agg #[.int .i64 0, .bool false, .bool false, .bool false, .int .i64 0, .int .i64 0]) partNil (fun w => by kernel_rfl)) _) rfl ?_
      obtain ⟨c19, h⟩ := h
      refine WL_act gd0 (o_storeAgg (vs := [.int .i64 0, .bool false, .bool false, .bool false, .int .i64 0, .int .i64 0]) Try.sizeOf23 rfl rfl rfl c19) ?_
      generalize hw18 : setAll w6 p5 0 [.int .i64 0, .bool false, .bool false, .bool false, .int .i64 0, .int .i64 0] = w18 at h ⊢
      try dsimp only at h
      refine WL_val gd0 ((o_assign (v := .int .i64 6) rfl) _) rfl ?_
      refine WL_nil ?_
      refine nrm ?_
      refine WC_ret ?_
      refine rtB ?_
      refine rtT ?_
      refine rtE ?_
      obtain ⟨r20, r21, r22, r23, r24, r25, hc26, h⟩ := h
      exact gvC1 (vs := [.int .i64 r20, .bool r21, .bool r22, .bool r23, .int .i64 r24, .int .i64 r25]) rfl Try.isAgg23 Try.sizeOf23 rfl hc26 rfl h
    · rw [if_neg (of_decide_eq_false hb17)] at h
      refine WC_skip ?_
      refine nrmB ?_
      refine nrm ?_
      refine WC_seq ?_
      refine WC_region ?_
      refine WL_val gd0 ((o_move (v := .slice b_a1 b_n2 b_c3) (by exact e0)) _) rfl ?_
      refine WL_call gd0 (o_call Try.call19 (argCons rfl argNil) _) rfl (h.mono ?_)
      rintro _ w27 ⟨r28, rfl, h⟩
      refine WL_val gd0 ((o_assign (v := .pointer r28) rfl) _) rfl ?_
      refine WL_nil ?_
      refine nrm ?_
      refine WC_seq ?_
      refine WC_region ?_
      refine WL_val gd0 ((o_move (v := .pointer r28) rfl) _) rfl ?_
      refine WL_call gd0 (o_call Try.call20 (argCons rfl (argCons rfl argNil)) _) rfl (h.mono ?_)
      rintro _ w29 ⟨rfl, h⟩
      refine WL_nil ?_
      refine nrm ?_
      refine WC_seq ?_
      refine WC_region ?_
      refine WL_val gd0 ((o_move (v := .pointer r28) rfl) _) rfl ?_
      refine WL_call gd0 (o_call Try.call21 (argCons rfl (argCons rfl argNil)) _) rfl (h.mono ?_)
      rintro _ w30 ⟨x31, rfl, h⟩
      refine WL_val gd0 ((o_conv Try.underlying36 Try.underlying3 rfl) _) rfl ?_
      refine WL_val gd0 ((o_build (ps := [(0, .int .i64 (IntKind.i64.wrap x31))]) (v := .agg #[.int .i64 (IntKind.i64.wrap x31), .bool false, .bool false, .bool false, .int .i64 0, .int .i64 0]) (partCons rfl partNil) (fun w => by kernel_rfl)) _) rfl ?_
      have h := New.out h
      refine WL_val gd0 (o_alloc (z := .agg #[.int .i64 0, .bool false, .bool false, .bool false, .int .i64 0, .int .i64 0]) (cs := [.int .i64 0, .bool false, .bool false, .bool false, .int .i64 0, .int .i64 0]) Try.zeroValue23 rfl) rfl ?_
      generalize hp32 : fresh w30 = p32 at h ⊢
      generalize hw33 : push w30 23 [.int .i64 0, .bool false, .bool false, .bool false, .int .i64 0, .int .i64 0] = w33 at h ⊢
      try dsimp only at h
      obtain ⟨c35, h⟩ := h
      refine WL_act gd0 (o_storeAgg (vs := [.int .i64 (IntKind.i64.wrap x31), .bool false, .bool false, .bool false, .int .i64 0, .int .i64 0]) Try.sizeOf23 rfl rfl rfl c35) ?_
      generalize hw34 : setAll w33 p32 0 [.int .i64 (IntKind.i64.wrap x31), .bool false, .bool false, .bool false, .int .i64 0, .int .i64 0] = w34 at h ⊢
      try dsimp only at h
      refine WL_nil ?_
      refine nrm ?_
      refine WC_seq ?_
      refine WC_region ?_
      refine WL_val gd0 ((o_move (v := .pointer r28) rfl) _) rfl ?_
      refine WL_call gd0 (o_call Try.call20 (argCons rfl (argCons rfl argNil)) _) rfl (h.mono ?_)
      rintro _ w36 ⟨rfl, h⟩
      refine WL_nil ?_
      refine nrm ?_
      refine WC_seq ?_
      refine WC_region ?_
      refine WL_val gd0 ((o_move (v := .pointer r28) rfl) _) rfl ?_
      refine WL_call gd0 (o_call Try.call21 (argCons rfl (argCons rfl argNil)) _) rfl (h.mono ?_)
      rintro _ w37 ⟨x38, rfl, h⟩
      refine WL_val gd0 ((o_eql rfl rfl) _) rfl ?_
      refine WL_val gd0 ((o_fieldAddr 1 Try.underlying23 rfl Try.sizeOf4 rfl rfl rfl) _) rfl ?_
      obtain ⟨c40, h⟩ := h
      refine WL_act gd0 (o_store (v := .bool (decide (x38 = 1))) Try.sizeOf4 rfl rfl rfl c40) ?_
      generalize hw39 : World.setCell w37 (p32.add 1) (.bool (decide (x38 = 1))) = w39 at h ⊢
      try dsimp only at h
      refine WL_nil ?_
      refine nrm ?_
      refine WC_seq ?_
      refine WC_region ?_
      refine WL_val gd0 ((o_move (v := .pointer r28) rfl) _) rfl ?_
      refine WL_call gd0 (o_call Try.call21 (argCons rfl (argCons rfl argNil)) _) rfl (h.mono ?_)
      rintro _ w41 ⟨x42, rfl, h⟩
      refine WL_val gd0 ((o_eql rfl rfl) _) rfl ?_
      refine WL_val gd0 ((o_fieldAddr 2 Try.underlying23 rfl Try.sizeOf4 rfl rfl rfl) _) rfl ?_
      obtain ⟨c44, h⟩ := h
      refine WL_act gd0 (o_store (v := .bool (decide (x42 = 1))) Try.sizeOf4 rfl rfl rfl c44) ?_
      generalize hw43 : World.setCell w41 (p32.add 2) (.bool (decide (x42 = 1))) = w43 at h ⊢
      try dsimp only at h
      refine WL_nil ?_
      refine nrm ?_
      refine WC_seq ?_
      refine WC_region ?_
      refine WL_val gd0 ((o_move (v := .pointer r28) rfl) _) rfl ?_
      refine WL_call gd0 (o_call Try.call21 (argCons rfl (argCons rfl argNil)) _) rfl (h.mono ?_)
      rintro _ w45 ⟨x46, rfl, h⟩
      refine WL_val gd0 ((o_eql rfl rfl) _) rfl ?_
      refine WL_val gd0 ((o_fieldAddr 3 Try.underlying23 rfl Try.sizeOf4 rfl rfl rfl) _) rfl ?_
      obtain ⟨c48, h⟩ := h
      refine WL_act gd0 (o_store (v := .bool (decide (x46 = 1))) Try.sizeOf4 rfl rfl rfl c48) ?_
      generalize hw47 : World.setCell w45 (p32.add 3) (.bool (decide (x46 = 1))) = w47 at h ⊢
      try dsimp only at h
      refine WL_nil ?_
      refine nrm ?_
      refine WC_seq ?_
      refine WC_region ?_
      refine WL_val gd0 ((o_move (v := .pointer r28) rfl) _) rfl ?_
      refine WL_call gd0 (o_call Try.call21 (argCons rfl (argCons rfl argNil)) _) rfl (h.mono ?_)
      rintro _ w49 ⟨x50, rfl, h⟩
      refine WL_val gd0 ((o_conv Try.underlying36 Try.underlying3 rfl) _) rfl ?_
      refine WL_val gd0 ((o_fieldAddr 4 Try.underlying23 rfl Try.sizeOf3 rfl rfl rfl) _) rfl ?_
      obtain ⟨c52, h⟩ := h
      refine WL_act gd0 (o_store (v := .int .i64 (IntKind.i64.wrap x50)) Try.sizeOf3 rfl rfl rfl c52) ?_
      generalize hw51 : World.setCell w49 (p32.add 4) (.int .i64 (IntKind.i64.wrap x50)) = w51 at h ⊢
      try dsimp only at h
      refine WL_nil ?_
      refine nrm ?_
      refine WC_seq ?_
      refine WC_region ?_
      refine WL_val gd0 ((o_move (v := .pointer r28) rfl) _) rfl ?_
      refine WL_call gd0 (o_call Try.call20 (argCons rfl (argCons rfl argNil)) _) rfl (h.mono ?_)
      rintro _ w53 ⟨rfl, h⟩
      refine WL_nil ?_
      refine nrm ?_
      refine WC_seq ?_
      refine WC_region ?_
      refine WL_val gd0 ((o_move (v := .pointer r28) rfl) _) rfl ?_
      refine WL_call gd0 (o_call Try.call21 (argCons rfl (argCons rfl argNil)) _) rfl (h.mono ?_)
      rintro _ w54 ⟨x55, rfl, h⟩
      refine WL_val gd0 ((o_conv Try.underlying36 Try.underlying3 rfl) _) rfl ?_
      refine WL_val gd0 ((o_fieldAddr 5 Try.underlying23 rfl Try.sizeOf3 rfl rfl rfl) _) rfl ?_
      obtain ⟨c57, h⟩ := h
      refine WL_act gd0 (o_store (v := .int .i64 (IntKind.i64.wrap x55)) Try.sizeOf3 rfl rfl rfl c57) ?_
      generalize hw56 : World.setCell w54 (p32.add 5) (.int .i64 (IntKind.i64.wrap x55)) = w56 at h ⊢
      try dsimp only at h
      refine WL_nil ?_
      refine nrm ?_
      refine WC_seq ?_
      refine WC_seq ?_
      refine WC_region ?_
      obtain ⟨x58, x59, x60, x61, x62, x63, hc64, h⟩ := h
      refine WL_val gd0 (o_loadAgg (vs := [.int .i64 x58, .bool x59, .bool x60, .bool x61, .int .i64 x62, .int .i64 x63]) Try.isAgg23 Try.sizeOf23 rfl hc64) rfl ?_
      refine WL_call gd0 (o_call Try.call7 (argCons rfl argNil) _) rfl (h.mono ?_)
      rintro _ w65 ⟨r_a66, r_n67, r_c68, r69, rfl, h⟩
      refine WL_val gd0 ((o_move (v := .tuple #[.slice r_a66 r_n67 r_c68, .int .i64 r69]) rfl) _) rfl ?_
      refine WL_val gd0 ((o_extract (vs := [.slice r_a66 r_n67 r_c68, .int .i64 r69]) (r := .slice r_a66 r_n67 r_c68) rfl rfl) _) rfl ?_
      refine WL_val gd0 ((o_extract (vs := [.slice r_a66 r_n67 r_c68, .int .i64 r69]) (r := .int .i64 r69) rfl rfl) _) rfl ?_
      refine WL_val gd0 ((o_assign (v := .slice r_a66 r_n67 r_c68) rfl) _) rfl ?_
      refine WL_val gd0 ((o_assign (v := .int .i64 r69) rfl) _) rfl ?_
      refine WL_nil ?_
      refine nrm ?_
      refine WC_cut (fun ρ w' => ∃ (t73 : Bool), ρ 62 = .bool t73 ∧ ρ 2 = .pointer (some p5) ∧ ρ 5 = .pointer (some p32) ∧ F12_j1 p5 p32 t73 w' k) ?_ ?_
      · refine WC_region ?_
        refine WL_val gd0 ((o_move (v := .int .i64 r69) rfl) _) rfl ?_
        refine WL_val gd0 ((o_neq rfl rfl) _) rfl ?_
        refine WL_val gd0 ((o_move (v := .bool (decide (r69 ≠ 0))) rfl) _) rfl ?_
        refine bsplit (decide (r69 ≠ 0)) (fun hb101 => ?_) (fun hb101 => ?_)
        · rw [if_pos (of_decide_eq_true hb101)] at h
          refine WL_skip (gdN (b := (decide (r69 ≠ 0))) 57 rfl rfl hb101) rfl ?_
          refine WL_skip (gdN (b := (decide (r69 ≠ 0))) 57 rfl rfl hb101) rfl ?_
          refine WL_skip (gdN (b := (decide (r69 ≠ 0))) 57 rfl rfl hb101) rfl ?_
          refine WL_skip (gdN (b := (decide (r69 ≠ 0))) 57 rfl rfl hb101) rfl ?_
          refine WL_val gd0 ((o_pickT (v := .bool true) rfl hb101 rfl) _) rfl ?_
          refine WL_nil ?_
          refine nrm ?_
          exact ⟨_, rfl, rfl, rfl, h⟩
        · rw [if_neg (of_decide_eq_false hb101)] at h
          refine WL_val (gdY (b := (decide (r69 ≠ 0))) 57 rfl rfl hb101) ((o_move (v := .slice r_a66 r_n67 r_c68) rfl) _) rfl ?_
          refine WL_val (gdY (b := (decide (r69 ≠ 0))) 57 rfl rfl hb101) ((o_move (v := .slice b_a1 b_n2 b_c3) (by exact e0)) _) rfl ?_
          refine WL_call (gdY (b := (decide (r69 ≠ 0))) 57 rfl rfl hb101) (o_call Try.call22 (argCons rfl (argCons rfl argNil)) _) rfl (h.mono ?_)
          rintro _ w102 ⟨x103, rfl, h⟩
          refine WL_val (gdY (b := (decide (r69 ≠ 0))) 57 rfl rfl hb101) ((o_not rfl) _) rfl ?_
          refine WL_val gd0 ((o_pickF (v := .bool (!x103)) rfl hb101 rfl) _) rfl ?_
          refine WL_nil ?_
          refine nrm ?_
          exact ⟨_, rfl, rfl, rfl, h⟩
      · rintro ρ w74 ⟨t73, e62_72, e2_70, e5_71, h⟩
        unfold F12_j1 at h
        refine WC_cond (t := t73) (by exact e62_72) (fun hb75 => ?_) (fun hb75 => ?_)
        · rw [if_pos hb75] at h
          refine WC_seq ?_
          refine WC_region ?_
          refine WL_val gd0 ((o_build (ps := []) (v := .agg #[.int .i64 0, .bool false, .bool false, .bool false, .int .i64 0, .int .i64 0]) partNil (fun w => by kernel_rfl)) _) rfl ?_
          obtain ⟨c77, h⟩ := h
          refine WL_act gd0 (o_storeAgg (vs := [.int .i64 0, .bool false, .bool false, .bool false, .int .i64 0, .int .i64 0]) Try.sizeOf23 (by exact e2_70) rfl rfl c77) ?_
          generalize hw76 : setAll w74 p5 0 [.int .i64 0, .bool false, .bool false, .bool false, .int .i64 0, .int .i64 0] = w76 at h ⊢
          try dsimp only at h
          refine WL_val gd0 ((o_assign (v := .int .i64 4) rfl) _) rfl ?_
          refine WL_nil ?_
          refine nrm ?_
          refine WC_ret ?_
          refine rtT ?_
          refine rtE ?_
          obtain ⟨r78, r79, r80, r81, r82, r83, hc84, h⟩ := h
          exact gvC1 (vs := [.int .i64 r78, .bool r79, .bool r80, .bool r81, .int .i64 r82, .int .i64 r83]) rfl Try.isAgg23 Try.sizeOf23 (by exact e2_70) hc84 rfl h
        · rw [if_neg (neT hb75)] at h
          refine WC_skip ?_
          refine nrm ?_
          refine WC_seq ?_
          refine WC_region ?_
          obtain ⟨x85, x86, x87, x88, x89, x90, hc91, h⟩ := h
          refine WL_val gd0 (o_loadAgg (vs := [.int .i64 x85, .bool x86, .bool x87, .bool x88, .int .i64 x89, .int .i64 x90]) Try.isAgg23 Try.sizeOf23 (by exact e5_71) hc91) rfl ?_
          obtain ⟨c93, h⟩ := h
          refine WL_act gd0 (o_storeAgg (vs := [.int .i64 x85, .bool x86, .bool x87, .bool x88, .int .i64 x89, .int .i64 x90]) Try.sizeOf23 (by exact e2_70) rfl rfl c93) ?_
          generalize hw92 : setAll w74 p5 0 [.int .i64 x85, .bool x86, .bool x87, .bool x88, .int .i64 x89, .int .i64 x90] = w92 at h ⊢
          try dsimp only at h
          refine WL_val gd0 ((o_assign (v := .int .i64 0) rfl) _) rfl ?_
          refine WL_nil ?_
          refine nrm ?_
          refine WC_ret ?_
          refine rtE ?_
          obtain ⟨r94, r95, r96, r97, r98, r99, hc100, h⟩ := h
          exact gvC1 (vs := [.int .i64 r94, .bool r95, .bool r96, .bool r97, .int .i64 r98, .int .i64 r99]) rfl Try.isAgg23 Try.sizeOf23 (by exact e2_70) hc100 rfl h

def F13_j1 (p5 : Addr) (p41 : Addr) (t62 : Bool) (w63 : World) (k : Value → World → Prop) : Prop :=
  if t62 = true then
  PutAll w63 p5 [.int .i64 0, .bool false, .bool false, .bool false, .int .i64 0, .int .i64 0] (fun w65 => ∃ (r67 : Int) (r68 r69 r70 : Bool) (r71 r72 : Int), Cells w65 p5 0 [.int .i64 r67, .bool r68, .bool r69, .bool r70, .int .i64 r71, .int .i64 r72] ∧ k (.tuple #[.agg #[.int .i64 r67, .bool r68, .bool r69, .bool r70, .int .i64 r71, .int .i64 r72], .int .i64 4]) w65)
else
  ∃ (x74 : Int) (x75 x76 x77 : Bool) (x78 x79 : Int), Cells w63 p41 0 [.int .i64 x74, .bool x75, .bool x76, .bool x77, .int .i64 x78, .int .i64 x79] ∧ PutAll w63 p5 [.int .i64 x74, .bool x75, .bool x76, .bool x77, .int .i64 x78, .int .i64 x79] (fun w81 => ∃ (r83 : Int) (r84 r85 r86 : Bool) (r87 r88 : Int), Cells w81 p5 0 [.int .i64 r83, .bool r84, .bool r85, .bool r86, .int .i64 r87, .int .i64 r88] ∧ k (.tuple #[.agg #[.int .i64 r83, .bool r84, .bool r85, .bool r86, .int .i64 r87, .int .i64 r88], .int .i64 0]) w81)
/-- spacecraft spacecraftref15.Decode -/
def F13 (b_a1 : Option Addr) (b_n2 : Nat) (b_c3 : Nat) (w4 : World) (k : Value → World → Prop) : Prop :=
  New w4 23 [.int .i64 0, .bool false, .bool false, .bool false, .int .i64 0, .int .i64 0] (fun p5 w6 => if (b_n2 : Int) < 4 then
  PutAll w6 p5 [.int .i64 0, .bool false, .bool false, .bool false, .int .i64 0, .int .i64 0] (fun w8 => ∃ (r10 : Int) (r11 r12 r13 : Bool) (r14 r15 : Int), Cells w8 p5 0 [.int .i64 r10, .bool r11, .bool r12, .bool r13, .int .i64 r14, .int .i64 r15] ∧ k (.tuple #[.agg #[.int .i64 r10, .bool r11, .bool r12, .bool r13, .int .i64 r14, .int .i64 r15], .int .i64 3]) w8)
else
  if 4 < (b_n2 : Int) then
    PutAll w6 p5 [.int .i64 0, .bool false, .bool false, .bool false, .int .i64 0, .int .i64 0] (fun w18 => ∃ (r20 : Int) (r21 r22 r23 : Bool) (r24 r25 : Int), Cells w18 p5 0 [.int .i64 r20, .bool r21, .bool r22, .bool r23, .int .i64 r24, .int .i64 r25] ∧ k (.tuple #[.agg #[.int .i64 r20, .bool r21, .bool r22, .bool r23, .int .i64 r24, .int .i64 r25], .int .i64 6]) w18)
  else
    ∃ (p29 : Addr), b_a1 = some p29 ∧ (0 : Int) ≤ 2 ∧ 2 < (b_n2 : Int) ∧ ∃ (x31 : Int), w6.cell? (p29.add ((2 : Int).toNat)) = some (.int .u8 x31) ∧ (0 : Int) ≤ 1 ∧ 1 < (b_n2 : Int) ∧ ∃ (x35 : Int), w6.drew.cell? (p29.add ((1 : Int).toNat)) = some (.int .u8 x35) ∧ (0 : Int) ≤ 3 ∧ 3 < (b_n2 : Int) ∧ ∃ (x39 : Int), w6.drew.cell? (p29.add ((3 : Int).toNat)) = some (.int .u8 x39) ∧ New w6.drew 23 [.int .i64 0, .bool false, .bool false, .bool false, .int .i64 0, .int .i64 0] (fun p41 w42 => w42.cell? (p29.add ((1 : Int).toNat)) = some (.int .u8 x35) ∧ w42.cell? (p29.add ((3 : Int).toNat)) = some (.int .u8 x39) ∧ PutAll w42 p41 [.int .i64 (IntKind.i64.wrap (Int.tdiv (IntKind.i64.wrap x35) 4)), .bool (decide ((Int.tmod (IntKind.i64.wrap (Int.tdiv (IntKind.i64.wrap x31) 32)) 2) = 1)), .bool (decide ((Int.tmod (IntKind.i64.wrap (Int.tdiv (IntKind.i64.wrap x31) 16)) 2) = 1)), .bool (decide ((Int.tmod (IntKind.i64.wrap (Int.tdiv (IntKind.i64.wrap x31) 8)) 2) = 1)), .int .i64 (Int.tmod (IntKind.i64.wrap (Int.tdiv (IntKind.i64.wrap x31) 2)) 4), .int .i64 (IntKind.i64.wrap x39)] (fun w45 => ∃ (x47 : Int) (x48 x49 x50 : Bool) (x51 x52 : Int), Cells w45 p41 0 [.int .i64 x47, .bool x48, .bool x49, .bool x50, .int .i64 x51, .int .i64 x52] ∧ Does Try.prog 8 #[.agg #[.int .i64 x47, .bool x48, .bool x49, .bool x50, .int .i64 x51, .int .i64 x52]] w45 (fun v w54 => ∃ (r_a55 : Option Addr) (r_n56 r_c57 : Nat) (r58 : Int), v = .tuple #[.slice r_a55 r_n56 r_c57, .int .i64 r58] ∧ if r58 ≠ 0 then
      F13_j1 p5 p41 true w54 k
    else
      ∃ (s91 : ByteArray), (Conv.bytesToString (.slice r_a55 r_n56 r_c57)).run Try.prog w54 = .ok (.string s91) w54 ∧ ∃ (s93 : ByteArray), (Conv.bytesToString (.slice b_a1 b_n2 b_c3)).run Try.prog w54 = .ok (.string s93) w54 ∧ F13_j1 p5 p41 (!(s91.toList == s93.toList)) w54 k))))
set_option maxRecDepth 100000 in
set_option maxHeartbeats 2000000 in
theorem w13 (b_a1 : Option Addr) (b_n2 : Nat) (b_c3 : Nat) (w4 : World) (k : Value → World → Prop) (h : F13 b_a1 b_n2 b_c3 w4 k) : Does Try.prog 13 #[.slice b_a1 b_n2 b_c3] w4 k := by
  refine enter 61 Try.func13 rfl rfl rfl ?_
  intro ρ hρ
  have e0 := hρ 0 _ rfl
  unfold F13 at h
  refine WC_seq ?_
  refine WC_region ?_
  have h := New.out h
  refine WL_val gd0 (o_alloc (z := .agg #[.int .i64 0, .bool false, .bool false, .bool false, .int .i64 0, .int .i64 0]) (cs := [.int .i64 0, .bool false, .bool false, .bool false, .int .i64 0, .int .i64 0]) Try.zeroValue23 rfl) rfl ?_
  generalize hp5 : fresh w4 = p5 at h ⊢
  generalize hw6 : push w4 23 [.int .i64 0, .bool false, .bool false, .bool false, .int .i64 0, .int .i64 0] = w6 at h ⊢
  try dsimp only at h
  refine WL_val gd0 ((o_assign (v := .int .i64 0) rfl) _) rfl ?_
  refine WL_nil ?_
  refine nrm ?_
  refine WC_seq ?_
  refine WC_seq ?_
  refine WC_region ?_
  refine WL_val gd0 ((o_move (v := .slice b_a1 b_n2 b_c3) (by exact e0)) _) rfl ?_
  refine WL_val gd0 ((o_len Try.underlying24 rfl) _) rfl ?_
  refine WL_val gd0 ((o_lss rfl rfl) _) rfl ?_
  refine WL_nil ?_
  refine nrm ?_
  refine WC_cond (t := (decide ((b_n2 : Int) < 4))) rfl (fun hb7 => ?_) (fun hb7 => ?_)
  · rw [if_pos (of_decide_eq_true hb7)] at h
    refine WC_seq ?_
    refine WC_region ?_
    refine WL_val gd0 ((o_build (ps := []) (v := .agg #[.int .i64 0, .bool false, .bool false, .bool false, .int .i64 0, .int .i64 0]) partNil (fun w => by kernel_rfl)) _) rfl ?_
    obtain ⟨c9, h⟩ := h
    refine WL_act gd0 (o_storeAgg (vs := [.int .i64 0, .bool false, .bool false, .bool false, .int .i64 0, .int .i64 0]) Try.sizeOf23 rfl rfl rfl c9) ?_
    generalize hw8 : setAll w6 p5 0 [.int .i64 0, .bool false, .bool false, .bool false, .int .i64 0, .int .i64 0] = w8 at h ⊢
    try dsimp only at h
    refine WL_val gd0 ((o_assign (v := .int .i64 3) rfl) _) rfl ?_
    refine WL_nil ?_
    refine nrm ?_
    refine WC_ret ?_
    refine rtT ?_
    refine rtE ?_
    obtain ⟨r10, r11, r12, r13, r14, r15, hc16, h⟩ := h
    exact gvC1 (vs := [.int .i64 r10, .bool r11, .bool r12, .bool r13, .int .i64 r14, .int .i64 r15]) rfl Try.isAgg23 Try.sizeOf23 rfl hc16 rfl h
  · rw [if_neg (of_decide_eq_false hb7)] at h
    refine WC_skip ?_
    refine nrm ?_
    refine WC_seq ?_
    refine WC_seq ?_
    refine WC_region ?_
    refine WL_val gd0 ((o_move (v := .slice b_a1 b_n2 b_c3) (by exact e0)) _) rfl ?_
    refine WL_val gd0 ((o_len Try.underlying24 rfl) _) rfl ?_
    refine WL_val gd0 ((o_gtr rfl rfl) _) rfl ?_
    refine WL_nil ?_
    refine nrm ?_
    refine WC_cond (t := (decide (4 < (b_n2 : Int)))) rfl (fun hb17 => ?_) (fun hb17 => ?_)
    · rw [if_pos (of_decide_eq_true hb17)] at h
      refine WC_seq ?_
      refine WC_region ?_
      refine WL_val gd0 ((o_build (ps := []) (v := .agg #[.int .i64 0, .bool false, .bool false, .bool false, .int .i64 0, .int .i64 0]) partNil (fun w => by kernel_rfl)) _) rfl ?_
      obtain ⟨c19, h⟩ := h
      refine WL_act gd0 (o_storeAgg (vs := [.int .i64 0, .bool false, .bool false, .bool false, .int .i64 0, .int .i64 0]) Try.sizeOf23 rfl rfl rfl c19) ?_
      generalize hw18 : setAll w6 p5 0 [.int .i64 0, .bool false, .bool false, .bool false, .int .i64 0, .int .i64 0] = w18 at h ⊢
      try dsimp only at h
      refine WL_val gd0 ((o_assign (v := .int .i64 6) rfl) _) rfl ?_
      refine WL_nil ?_
      refine nrm ?_
      refine WC_ret ?_
      refine rtT ?_
      refine rtE ?_
      obtain ⟨r20, r21, r22, r23, r24, r25, hc26, h⟩ := h
      exact gvC1 (vs := [.int .i64 r20, .bool r21, .bool r22, .bool r23, .int .i64 r24, .int .i64 r25]) rfl Try.isAgg23 Try.sizeOf23 rfl hc26 rfl h
    · rw [if_neg (of_decide_eq_false hb17)] at h
      refine WC_skip ?_
      refine nrm ?_
      refine WC_seq ?_
      refine WC_region ?_
      refine WL_val gd0 ((o_move (v := .slice b_a1 b_n2 b_c3) (by exact e0)) _) rfl ?_
      obtain ⟨p29, q30, h⟩ := h
      obtain ⟨l27, u28, h⟩ := h
      refine WL_val gd0 ((o_indexAddr1 Try.underlying24 Try.sizeOf5 (by exact (congrArg (fun z => Value.slice z b_n2 b_c3) q30)) rfl l27 u28) _) rfl ?_
      obtain ⟨x31, hc32, h⟩ := h
      refine WL_val gd0 (o_load Try.isAgg5 rfl hc32) rfl ?_
      refine WL_val gd0 ((o_conv Try.underlying5 Try.underlying3 rfl) _) rfl ?_
      refine WL_val gd0 ((o_assign (v := .int .i64 (IntKind.i64.wrap x31)) rfl) _) rfl ?_
      refine WL_nil ?_
      refine nrm ?_
      refine WC_seq ?_
      refine WC_draws [25, 26] (.look 0 (.look 1 (.look 2 (.look 3 (.look 4 (.look 5 (.look 6 (.look 7 (.look 8 (.look 9 (.look 10 (.look 11 (.look 12 (.look 13 (.look 14 (.look 15 (.look 16 (.look 17 (.look 18 (.look 19 (.look 20 (.look 21 (.look 22 (.look 23 (.look 24 (.act 25 (.act 26 .nil))))))))))))))))))))))))))) Try.mixed (by kernel_rfl) ?_
      refine WQ_val rfl gd0 (o_move (v := .slice b_a1 b_n2 b_c3) (by exact e0)) rfl ?_
      obtain ⟨l33, u34, h⟩ := h
      refine WQ_val rfl gd0 (o_indexAddr1 Try.underlying24 Try.sizeOf5 (by exact (congrArg (fun z => Value.slice z b_n2 b_c3) q30)) rfl l33 u34) rfl ?_
      obtain ⟨x35, hc36, h⟩ := h
      refine WQ_look (fun w => w.cell? (p29.add ((1 : Int).toNat)) = some (.int .u8 x35)) rfl gd0 (fun w hc => (o_load Try.isAgg5 rfl hc)) hc36 rfl ?_
      refine WQ_val rfl gd0 (o_conv Try.underlying5 Try.underlying3 rfl) rfl ?_
      refine WQ_val rfl gd0 (fun w => o_quo rfl rfl w (by decide)) rfl ?_
      refine WQ_val rfl gd0 (o_move (v := .int .i64 (IntKind.i64.wrap x31)) rfl) rfl ?_
      refine WQ_val rfl gd0 (fun w => o_quo rfl rfl w (by decide)) rfl ?_
      refine WQ_val rfl gd0 (fun w => o_rem rfl rfl w (by decide)) rfl ?_
      refine WQ_val rfl gd0 (o_eql rfl rfl) rfl ?_
      refine WQ_val rfl gd0 (o_move (v := .int .i64 (IntKind.i64.wrap x31)) rfl) rfl ?_
      refine WQ_val rfl gd0 (fun w => o_quo rfl rfl w (by decide)) rfl ?_
      refine WQ_val rfl gd0 (fun w => o_rem rfl rfl w (by decide)) rfl ?_
      refine WQ_val rfl gd0 (o_eql rfl rfl) rfl ?_
      refine WQ_val rfl gd0 (o_move (v := .int .i64 (IntKind.i64.wrap x31)) rfl) rfl ?_
      refine WQ_val rfl gd0 (fun w => o_quo rfl rfl w (by decide)) rfl ?_
      refine WQ_val rfl gd0 (fun w => o_rem rfl rfl w (by decide)) rfl ?_
      refine WQ_val rfl gd0 (o_eql rfl rfl) rfl ?_
      refine WQ_val rfl gd0 (o_move (v := .int .i64 (IntKind.i64.wrap x31)) rfl) rfl ?_
      refine WQ_val rfl gd0 (fun w => o_quo rfl rfl w (by decide)) rfl ?_
      refine WQ_val rfl gd0 (fun w => o_rem rfl rfl w (by decide)) rfl ?_
      refine WQ_val rfl gd0 (o_move (v := .slice b_a1 b_n2 b_c3) (by exact e0)) rfl ?_
      obtain ⟨l37, u38, h⟩ := h
      refine WQ_val rfl gd0 (o_indexAddr1 Try.underlying24 Try.sizeOf5 (by exact (congrArg (fun z => Value.slice z b_n2 b_c3) q30)) rfl l37 u38) rfl ?_
      obtain ⟨x39, hc40, h⟩ := h
      refine WQ_look (fun w => w.cell? (p29.add ((3 : Int).toNat)) = some (.int .u8 x39)) rfl gd0 (fun w hc => (o_load Try.isAgg5 rfl hc)) hc40 rfl ?_
      refine WQ_val rfl gd0 (o_conv Try.underlying5 Try.underlying3 rfl) rfl ?_
      refine WQ_val rfl gd0 (o_build (ps := [(0, .int .i64 (IntKind.i64.wrap (Int.tdiv (IntKind.i64.wrap x35) 4))), (1, .bool (decide ((Int.tmod (IntKind.i64.wrap (Int.tdiv (IntKind.i64.wrap x31) 32)) 2) = 1))), (2, .bool (decide ((Int.tmod (IntKind.i64.wrap (Int.tdiv (IntKind.i64.wrap x31) 16)) 2) = 1))), (3, .bool (decide ((Int.tmod (IntKind.i64.wrap (Int.tdiv (IntKind.i64.wrap x31) 8)) 2) = 1))), (4, .int .i64 (Int.tmod (IntKind.i64.wrap (Int.tdiv (IntKind.i64.wrap x31) 2)) 4)), (5, .int .i64 (IntKind.i64.wrap x39))]) (v := .agg #[.int .i64 (IntKind.i64.wrap (Int.tdiv (IntKind.i64.wrap x35) 4)), .bool (decide ((Int.tmod (IntKind.i64.wrap (Int.tdiv (IntKind.i64.wrap x31) 32)) 2) = 1)), .bool (decide ((Int.tmod (IntKind.i64.wrap (Int.tdiv (IntKind.i64.wrap x31) 16)) 2) = 1)), .bool (decide ((Int.tmod (IntKind.i64.wrap (Int.tdiv (IntKind.i64.wrap x31) 8)) 2) = 1)), .int .i64 (Int.tmod (IntKind.i64.wrap (Int.tdiv (IntKind.i64.wrap x31) 2)) 4), .int .i64 (IntKind.i64.wrap x39)]) (partCons rfl (partCons rfl (partCons rfl (partCons rfl (partCons rfl (partCons rfl partNil)))))) (fun w => by kernel_rfl)) rfl ?_
      have h := New.out h
      obtain ⟨hh43, hh44, h⟩ := h
      refine WQ_act rfl gd0 (o_alloc (z := .agg #[.int .i64 0, .bool false, .bool false, .bool false, .int .i64 0, .int .i64 0]) (cs := [.int .i64 0, .bool false, .bool false, .bool false, .int .i64 0, .int .i64 0]) Try.zeroValue23 rfl) rfl (by exact ⟨⟨trivial, fun _ => hh43⟩, fun _ => hh44⟩) ?_
      generalize hp41 : fresh w6.drew = p41 at h ⊢
      generalize hw42 : push w6.drew 23 [.int .i64 0, .bool false, .bool false, .bool false, .int .i64 0, .int .i64 0] = w42 at h ⊢
      try dsimp only at h
      obtain ⟨c46, h⟩ := h
      refine WQ_do rfl gd0 (o_storeAgg (vs := [.int .i64 (IntKind.i64.wrap (Int.tdiv (IntKind.i64.wrap x35) 4)), .bool (decide ((Int.tmod (IntKind.i64.wrap (Int.tdiv (IntKind.i64.wrap x31) 32)) 2) = 1)), .bool (decide ((Int.tmod (IntKind.i64.wrap (Int.tdiv (IntKind.i64.wrap x31) 16)) 2) = 1)), .bool (decide ((Int.tmod (IntKind.i64.wrap (Int.tdiv (IntKind.i64.wrap x31) 8)) 2) = 1)), .int .i64 (Int.tmod (IntKind.i64.wrap (Int.tdiv (IntKind.i64.wrap x31) 2)) 4), .int .i64 (IntKind.i64.wrap x39)]) Try.sizeOf23 rfl rfl rfl c46) (by exact ⟨⟨trivial, depT (by kernel_rfl)⟩, depT (by kernel_rfl)⟩) ?_
      generalize hw45 : setAll w42 p41 0 [.int .i64 (IntKind.i64.wrap (Int.tdiv (IntKind.i64.wrap x35) 4)), .bool (decide ((Int.tmod (IntKind.i64.wrap (Int.tdiv (IntKind.i64.wrap x31) 32)) 2) = 1)), .bool (decide ((Int.tmod (IntKind.i64.wrap (Int.tdiv (IntKind.i64.wrap x31) 16)) 2) = 1)), .bool (decide ((Int.tmod (IntKind.i64.wrap (Int.tdiv (IntKind.i64.wrap x31) 8)) 2) = 1)), .int .i64 (Int.tmod (IntKind.i64.wrap (Int.tdiv (IntKind.i64.wrap x31) 2)) 4), .int .i64 (IntKind.i64.wrap x39)] = w45 at h ⊢
      try dsimp only at h
      refine WQ_nil ?_
      refine nrm ?_
      refine WC_seq ?_
      refine WC_region ?_
      obtain ⟨x47, x48, x49, x50, x51, x52, hc53, h⟩ := h
      refine WL_val gd0 (o_loadAgg (vs := [.int .i64 x47, .bool x48, .bool x49, .bool x50, .int .i64 x51, .int .i64 x52]) Try.isAgg23 Try.sizeOf23 rfl hc53) rfl ?_
      refine WL_call gd0 (o_call Try.call8 (argCons rfl argNil) _) rfl (h.mono ?_)
      rintro _ w54 ⟨r_a55, r_n56, r_c57, r58, rfl, h⟩
      refine WL_val gd0 ((o_move (v := .tuple #[.slice r_a55 r_n56 r_c57, .int .i64 r58]) rfl) _) rfl ?_
      refine WL_val gd0 ((o_extract (vs := [.slice r_a55 r_n56 r_c57, .int .i64 r58]) (r := .slice r_a55 r_n56 r_c57) rfl rfl) _) rfl ?_
      refine WL_val gd0 ((o_extract (vs := [.slice r_a55 r_n56 r_c57, .int .i64 r58]) (r := .int .i64 r58) rfl rfl) _) rfl ?_
      refine WL_val gd0 ((o_assign (v := .slice r_a55 r_n56 r_c57) rfl) _) rfl ?_
      refine WL_val gd0 ((o_assign (v := .int .i64 r58) rfl) _) rfl ?_
      refine WL_nil ?_
      refine nrm ?_
      refine WC_seq ?_
      refine WC_cut (fun ρ w' => ∃ (t62 : Bool), ρ 58 = .bool t62 ∧ ρ 2 = .pointer (some p5) ∧ ρ 5 = .pointer (some p41) ∧ F13_j1 p5 p41 t62 w' k) ?_ ?_
      · refine WC_region ?_
        refine WL_val gd0 ((o_move (v := .int .i64 r58) rfl) _) rfl ?_
        refine WL_val gd0 ((o_neq rfl rfl) _) rfl ?_
        refine WL_val gd0 ((o_move (v := .bool (decide (r58 ≠ 0))) rfl) _) rfl ?_
        refine bsplit (decide (r58 ≠ 0)) (fun hb90 => ?_) (fun hb90 => ?_)
        · rw [if_pos (of_decide_eq_true hb90)] at h
          refine WL_skip (gdN (b := (decide (r58 ≠ 0))) 52 rfl rfl hb90) rfl ?_
          refine WL_skip (gdN (b := (decide (r58 ≠ 0))) 52 rfl rfl hb90) rfl ?_
          refine WL_skip (gdN (b := (decide (r58 ≠ 0))) 52 rfl rfl hb90) rfl ?_
          refine WL_skip (gdN (b := (decide (r58 ≠ 0))) 52 rfl rfl hb90) rfl ?_
          refine WL_skip (gdN (b := (decide (r58 ≠ 0))) 52 rfl rfl hb90) rfl ?_
          refine WL_val gd0 ((o_pickT (v := .bool true) rfl hb90 rfl) _) rfl ?_
          refine WL_nil ?_
          refine nrm ?_
          exact ⟨_, rfl, rfl, rfl, h⟩
        · rw [if_neg (of_decide_eq_false hb90)] at h
          refine WL_val (gdY (b := (decide (r58 ≠ 0))) 52 rfl rfl hb90) ((o_move (v := .slice r_a55 r_n56 r_c57) rfl) _) rfl ?_
          obtain ⟨s91, r92, h⟩ := h
          refine WL_val (gdY (b := (decide (r58 ≠ 0))) 52 rfl rfl hb90) (o_toStr Try.underlying24 Try.underlying5 Try.underlying9 rfl r92) rfl ?_
          refine WL_val (gdY (b := (decide (r58 ≠ 0))) 52 rfl rfl hb90) ((o_move (v := .slice b_a1 b_n2 b_c3) (by exact e0)) _) rfl ?_
          obtain ⟨s93, r94, h⟩ := h
          refine WL_val (gdY (b := (decide (r58 ≠ 0))) 52 rfl rfl hb90) (o_toStr Try.underlying24 Try.underlying5 Try.underlying9 rfl r94) rfl ?_
          refine WL_val (gdY (b := (decide (r58 ≠ 0))) 52 rfl rfl hb90) ((o_neqStr rfl rfl) _) rfl ?_
          refine WL_val gd0 ((o_pickF (v := .bool (!(s91.toList == s93.toList))) rfl hb90 rfl) _) rfl ?_
          refine WL_nil ?_
          refine nrm ?_
          exact ⟨_, rfl, rfl, rfl, h⟩
      · rintro ρ w63 ⟨t62, e58_61, e2_59, e5_60, h⟩
        unfold F13_j1 at h
        refine WC_cond (t := t62) (by exact e58_61) (fun hb64 => ?_) (fun hb64 => ?_)
        · rw [if_pos hb64] at h
          refine WC_seq ?_
          refine WC_region ?_
          refine WL_val gd0 ((o_build (ps := []) (v := .agg #[.int .i64 0, .bool false, .bool false, .bool false, .int .i64 0, .int .i64 0]) partNil (fun w => by kernel_rfl)) _) rfl ?_
          obtain ⟨c66, h⟩ := h
          refine WL_act gd0 (o_storeAgg (vs := [.int .i64 0, .bool false, .bool false, .bool false, .int .i64 0, .int .i64 0]) Try.sizeOf23 (by exact e2_59) rfl rfl c66) ?_
          generalize hw65 : setAll w63 p5 0 [.int .i64 0, .bool false, .bool false, .bool false, .int .i64 0, .int .i64 0] = w65 at h ⊢
          try dsimp only at h
          refine WL_val gd0 ((o_assign (v := .int .i64 4) rfl) _) rfl ?_
          refine WL_nil ?_
          refine nrm ?_
          refine WC_ret ?_
          refine rtT ?_
          refine rtE ?_
          obtain ⟨r67, r68, r69, r70, r71, r72, hc73, h⟩ := h
          exact gvC1 (vs := [.int .i64 r67, .bool r68, .bool r69, .bool r70, .int .i64 r71, .int .i64 r72]) rfl Try.isAgg23 Try.sizeOf23 (by exact e2_59) hc73 rfl h
        · rw [if_neg (neT hb64)] at h
          refine WC_skip ?_
          refine nrm ?_
          refine WC_seq ?_
          refine WC_region ?_
          obtain ⟨x74, x75, x76, x77, x78, x79, hc80, h⟩ := h
          refine WL_val gd0 (o_loadAgg (vs := [.int .i64 x74, .bool x75, .bool x76, .bool x77, .int .i64 x78, .int .i64 x79]) Try.isAgg23 Try.sizeOf23 (by exact e5_60) hc80) rfl ?_
          obtain ⟨c82, h⟩ := h
          refine WL_act gd0 (o_storeAgg (vs := [.int .i64 x74, .bool x75, .bool x76, .bool x77, .int .i64 x78, .int .i64 x79]) Try.sizeOf23 (by exact e2_59) rfl rfl c82) ?_
          generalize hw81 : setAll w63 p5 0 [.int .i64 x74, .bool x75, .bool x76, .bool x77, .int .i64 x78, .int .i64 x79] = w81 at h ⊢
          try dsimp only at h
          refine WL_val gd0 ((o_assign (v := .int .i64 0) rfl) _) rfl ?_
          refine WL_nil ?_
          refine nrm ?_
          refine WC_ret ?_
          refine rtE ?_
          obtain ⟨r83, r84, r85, r86, r87, r88, hc89, h⟩ := h
          exact gvC1 (vs := [.int .i64 r83, .bool r84, .bool r85, .bool r86, .int .i64 r87, .int .i64 r88]) rfl Try.isAgg23 Try.sizeOf23 (by exact e2_59) hc89 rfl h

/-- spacecraft bits.NewWriter -/
def F14 (w1 : World) (k : Value → World → Prop) : Prop :=
  New w1 46 [.bool true, .slice none 0 0, .int .i64 0] (fun p2 w3 => k (.pointer (some p2)) w3)
set_option maxRecDepth 100000 in
set_option maxHeartbeats 2000000 in
theorem w14 (w1 : World) (k : Value → World → Prop) (h : F14 w1 k) : Does Try.prog 14 #[] w1 k := by
  refine enter 3 Try.func14 rfl rfl rfl ?_
  intro ρ hρ
  unfold F14 at h
  refine WC_seq ?_
  refine WC_region ?_
  refine WL_val gd0 ((o_assign (v := .pointer none) rfl) _) rfl ?_
  refine WL_nil ?_
  refine nrm ?_
  refine WC_seq ?_
  refine WC_region ?_
  refine WL_val gd0 ((o_build (ps := [(0, .bool true)]) (v := .agg #[.bool true, .slice none 0 0, .int .i64 0]) (partCons rfl partNil) (fun w => by kernel_rfl)) _) rfl ?_
  have h := New.out h
  refine WL_val gd0 (o_box (v := .agg #[.bool true, .slice none 0 0, .int .i64 0]) (cs := [.bool true, .slice none 0 0, .int .i64 0]) rfl rfl) rfl ?_
  generalize hp2 : fresh w1 = p2 at h ⊢
  generalize hw3 : push w1 46 [.bool true, .slice none 0 0, .int .i64 0] = w3 at h ⊢
  try dsimp only at h
  refine WL_val gd0 ((o_assign (v := .pointer (some p2)) rfl) _) rfl ?_
  refine WL_nil ?_
  refine nrm ?_
  refine WC_ret ?_
  refine rtE ?_
  exact gv1 rfl rfl h

def F15_j3 (width3 : Int) (t20 : Int) (w1 : Option Addr) (n2 : Int) (w30 : World) (nx21 : Int → World → Prop) : Prop :=
  (0 : Int) ≤ IntKind.i64.wrap ((IntKind.i64.wrap (width3 - 1)) - t20) ∧ ∃ (p32 : Addr), w1 = some p32 ∧ ∃ (x_a34 : Option Addr) (x_n35 x_c36 : Nat), w30.drew.cell? (p32.add 1) = some (.slice x_a34 x_n35 x_c36) ∧ ∃ (x38 : Int), w30.drew.cell? (p32.add 2) = some (.int .i64 x38) ∧ ∃ (p42 : Addr), x_a34 = some p42 ∧ (0 : Int) ≤ IntKind.i64.wrap (Int.tdiv x38 8) ∧ IntKind.i64.wrap (Int.tdiv x38 8) < (x_n35 : Int) ∧ ∃ (x44 : Int), w30.drew.cell? (p42.add ((IntKind.i64.wrap (Int.tdiv x38 8)).toNat)) = some (.int .u8 x44) ∧ ∃ (x46 : Int), w30.drew.cell? (p32.add 2) = some (.int .i64 x46) ∧ (0 : Int) ≤ IntKind.i64.wrap (7 - (Int.tmod x46 8)) ∧ (0 : Int) ≤ IntKind.i64.wrap (Int.tdiv x38 8) ∧ IntKind.i64.wrap (Int.tdiv x38 8) < (x_n35 : Int) ∧ Put w30.drew (p42.add ((IntKind.i64.wrap (Int.tdiv x38 8)).toNat)) (.int .u8 (bor .u8 x44 (shl .u8 (IntKind.u8.wrap (band .u64 (shr .u64 n2 (IntKind.i64.wrap ((IntKind.i64.wrap (width3 - 1)) - t20))) 1)) (IntKind.i64.wrap (7 - (Int.tmod x46 8)))))) (fun w51 => ∃ (x53 : Int), w51.cell? (p32.add 2) = some (.int .i64 x53) ∧ Put w51 (p32.add 2) (.int .i64 (IntKind.i64.wrap (x53 + 1))) (fun w55 => nx21 (IntKind.i64.wrap (t20 + 1)) w55))
def F15_b2 (width3 : Int) (w1 : Option Addr) (n2 : Int) (t20 : Int) (w21 : World) (nx21 : Int → World → Prop) (k : Value → World → Prop) : Prop :=
  if t20 < width3 then
  ∃ (p57 : Addr), w1 = some p57 ∧ ∃ (x59 : Int), w21.cell? (p57.add 2) = some (.int .i64 x59) ∧ if (Int.tmod x59 8) = 0 then
    ∃ (x_a62 : Option Addr) (x_n63 x_c64 : Nat), w21.cell? (p57.add 1) = some (.slice x_a62 x_n63 x_c64) ∧ New w21 5 [.int .u8 0] (fun p66 w67 => ∃ (b_a68 : Option Addr) (b_n69 b_c70 : Nat) (w71 : World), (Builtin.append_ #[24, 24] 24 #[.slice x_a62 x_n63 x_c64, .slice (some p66) 1 1]).run Try.prog w67 = .ok (.slice b_a68 b_n69 b_c70) w71 ∧ Put w71 (p57.add 1) (.slice b_a68 b_n69 b_c70) (fun w73 => F15_j3 width3 t20 w1 n2 w73 nx21))
  else
    F15_j3 width3 t20 w1 n2 w21 nx21
else
  k (.pointer w1) w21
def F15_j1 (w1 : Option Addr) (width3 : Int) (n2 : Int) (t12 : Bool) (w13 : World) (k : Value → World → Prop) : Prop :=
  if t12 = true then
  k (.pointer w1) w13
else
  LoopP (fun (s : Int) w' nx' => F15_b2 width3 w1 n2 s w' (fun x0 w => nx' x0 w) k) 0 w13
/-- (*spacecraft bits.Writer).Put -/
def F15 (w1 : Option Addr) (n2 : Int) (width3 : Int) (w4 : World) (k : Value → World → Prop) : Prop :=
  Does Try.prog 23 #[.pointer w1] w4 (fun v w5 => ∃ (x6 : Bool), v = .bool x6 ∧ if (!x6) = true then
  k (.pointer none) w5
else
  if width3 < 0 then
    F15_j1 w1 width3 n2 true w5 k
  else
    F15_j1 w1 width3 n2 (decide (64 < width3)) w5 k)
set_option maxRecDepth 100000 in
set_option maxHeartbeats 2000000 in
theorem w15 (w1 : Option Addr) (n2 : Int) (width3 : Int) (w4 : World) (k : Value → World → Prop) (h : F15 w1 n2 width3 w4 k) : Does Try.prog 15 #[.pointer w1, .int .u64 n2, .int .i64 width3] w4 k := by
  refine enter 76 Try.func15 rfl rfl rfl ?_
  intro ρ hρ
  have e0 := hρ 0 _ rfl
  have e1 := hρ 1 _ rfl
  have e2 := hρ 2 _ rfl
  unfold F15 at h
  refine WC_seq ?_
  refine WC_region ?_
  refine WL_val gd0 ((o_assign (v := .pointer none) rfl) _) rfl ?_
  refine WL_nil ?_
  refine nrm ?_
  refine WC_seq ?_
  refine WC_seq ?_
  refine WC_region ?_
  refine WL_val gd0 ((o_move (v := .pointer w1) (by exact e0)) _) rfl ?_
  refine WL_call gd0 (o_call Try.call23 (argCons rfl argNil) _) rfl (h.mono ?_)
  rintro _ w5 ⟨x6, rfl, h⟩
  refine WL_val gd0 ((o_not rfl) _) rfl ?_
  refine WL_nil ?_
  refine nrm ?_
  refine WC_cond (t := (!x6)) rfl (fun hb7 => ?_) (fun hb7 => ?_)
  · rw [if_pos hb7] at h
    refine WC_seq ?_
    refine WC_region ?_
    refine WL_val gd0 ((o_assign (v := .pointer none) rfl) _) rfl ?_
    refine WL_nil ?_
    refine nrm ?_
    refine WC_ret ?_
    refine rtT ?_
    refine rtE ?_
    exact gv1 rfl rfl h
  · rw [if_neg (neT hb7)] at h
    refine WC_skip ?_
    refine nrm ?_
    refine WC_seq ?_
    refine WC_cut (fun ρ w' => ∃ (t12 : Bool), ρ 17 = .bool t12 ∧ ρ 0 = .pointer w1 ∧ ρ 1 = .int .u64 n2 ∧ ρ 2 = .int .i64 width3 ∧ F15_j1 w1 width3 n2 t12 w' k) ?_ ?_
    · refine WC_region ?_
      refine WL_val gd0 ((o_move (v := .int .i64 width3) (by exact e2)) _) rfl ?_
      refine WL_val gd0 ((o_lss rfl rfl) _) rfl ?_
      refine WL_val gd0 ((o_move (v := .bool (decide (width3 < 0))) rfl) _) rfl ?_
      refine bsplit (decide (width3 < 0)) (fun hb75 => ?_) (fun hb75 => ?_)
      · rw [if_pos (of_decide_eq_true hb75)] at h
        refine WL_skip (gdN (b := (decide (width3 < 0))) 14 rfl rfl hb75) rfl ?_
        refine WL_skip (gdN (b := (decide (width3 < 0))) 14 rfl rfl hb75) rfl ?_
        refine WL_val gd0 ((o_pickT (v := .bool true) rfl hb75 rfl) _) rfl ?_
        refine WL_nil ?_
        refine nrm ?_
        exact ⟨_, rfl, e0, e1, e2, h⟩
      · rw [if_neg (of_decide_eq_false hb75)] at h
        refine WL_val (gdY (b := (decide (width3 < 0))) 14 rfl rfl hb75) ((o_move (v := .int .i64 width3) (by exact e2)) _) rfl ?_
        refine WL_val (gdY (b := (decide (width3 < 0))) 14 rfl rfl hb75) ((o_gtr rfl rfl) _) rfl ?_
        refine WL_val gd0 ((o_pickF (v := .bool (decide (64 < width3))) rfl hb75 rfl) _) rfl ?_
        refine WL_nil ?_
        refine nrm ?_
        exact ⟨_, rfl, e0, e1, e2, h⟩
    · rintro ρ w13 ⟨t12, e17_11, e0_8, e1_9, e2_10, h⟩
      unfold F15_j1 at h
      refine WC_cond (t := t12) (by exact e17_11) (fun hb14 => ?_) (fun hb14 => ?_)
      · rw [if_pos hb14] at h
        refine WC_seq ?_
        refine WC_region ?_
        refine WL_val gd0 ((o_move (v := .pointer w1) (by exact e0_8)) _) rfl ?_
        refine WL_val gd0 ((o_assign (v := .pointer w1) rfl) _) rfl ?_
        refine WL_nil ?_
        refine nrm ?_
        refine WC_ret ?_
        refine rtT ?_
        refine rtE ?_
        exact gv1 rfl rfl h
      · rw [if_neg (neT hb14)] at h
        refine WC_skip ?_
        refine nrm ?_
        refine WC_seq ?_
        refine WC_seq ?_
        refine WC_region ?_
        refine WL_val gd0 ((o_move (v := .int .i64 width3) (by exact e2_10)) _) rfl ?_
        refine WL_val gd0 ((o_move (v := .int .i64 0) rfl) _) rfl ?_
        refine WL_nil ?_
        refine nrm ?_
        refine WC_block ?_
        obtain ⟨J21, ⟨n21, h0⟩, hr21⟩ := h
        refine WC_loop (fun n ρ w' => ∃ (t20 : Int), ρ 20 = .int .i64 t20 ∧ ρ 0 = .pointer w1 ∧ ρ 1 = .int .u64 n2 ∧ ρ 2 = .int .i64 width3 ∧ ρ 19 = .int .i64 width3 ∧ J21 n t20 w') ⟨n21, _, rfl, e0_8, e1_9, e2_10, rfl, h0⟩ ?_
        rintro n21 ρ w21 ⟨t20, e20_19, e0_15, e1_16, e2_17, e19_18, h⟩
        have h : F15_b2 width3 w1 n2 t20 w21 (fun x0 w => ∃ m, m < n21 ∧ J21 m x0 w) k := hr21 n21 t20 w21 h
        unfold F15_b2 at h
        refine WC_seq ?_
        refine WC_region ?_
        refine WL_val gd0 ((o_lss (by exact e20_19) (by exact e19_18)) _) rfl ?_
        refine WL_nil ?_
        refine nrm ?_
        refine WC_seq ?_
        refine WC_cond (t := (decide (t20 < width3))) rfl (fun hb23 => ?_) (fun hb23 => ?_)
        · rw [if_pos (of_decide_eq_true hb23)] at h
          refine WC_skip ?_
          refine nrm ?_
          refine WC_seq ?_
          refine WC_block ?_
          refine WC_seq ?_
          refine WC_region ?_
          refine WL_val gd0 ((o_move (v := .int .i64 t20) (by exact e20_19)) _) rfl ?_
          refine WL_val gd0 ((o_assign (v := .int .i64 t20) rfl) _) rfl ?_
          refine WL_nil ?_
          refine nrm ?_
          refine WC_cut (fun ρ w' => ρ 0 = .pointer w1 ∧ ρ 1 = .int .u64 n2 ∧ ρ 2 = .int .i64 width3 ∧ ρ 7 = .int .i64 t20 ∧ ρ 19 = .int .i64 width3 ∧ ρ 20 = .int .i64 t20 ∧ F15_j3 width3 t20 w1 n2 w' (fun x0 w => ∃ m, m < n21 ∧ J21 m x0 w)) ?_ ?_
          · refine WC_seq ?_
            refine WC_region ?_
            refine WL_val gd0 ((o_move (v := .pointer w1) (by exact e0_15)) _) rfl ?_
            obtain ⟨p57, q58, h⟩ := h
            refine WL_val gd0 ((o_nilCheck (by exact (congrArg Value.pointer q58))) _) rfl ?_
            refine WL_val gd0 ((o_fieldAddr 2 Try.underlying46 rfl Try.sizeOf3 rfl rfl rfl) _) rfl ?_
            obtain ⟨x59, hc60, h⟩ := h
            refine WL_val gd0 (o_load Try.isAgg3 rfl hc60) rfl ?_
            refine WL_val gd0 ((fun w => o_rem rfl rfl w (by decide)) _) rfl ?_
            refine WL_val gd0 ((o_eql rfl rfl) _) rfl ?_
            refine WL_nil ?_
            refine nrm ?_
            refine WC_cond (t := (decide ((Int.tmod x59 8) = 0))) rfl (fun hb61 => ?_) (fun hb61 => ?_)
            · rw [if_pos (of_decide_eq_true hb61)] at h
              refine WC_region ?_
              refine WL_val gd0 ((o_move (v := .pointer w1) (by exact e0_15)) _) rfl ?_
              refine WL_val gd0 ((o_move (v := .pointer w1) (by exact e0_15)) _) rfl ?_
              refine WL_val gd0 ((o_nilCheck (by exact (congrArg Value.pointer q58))) _) rfl ?_
              refine WL_val gd0 ((o_fieldAddr 1 Try.underlying46 rfl Try.sizeOf24 rfl rfl rfl) _) rfl ?_
              obtain ⟨x_a62, x_n63, x_c64, hc65, h⟩ := h
              refine WL_val gd0 (o_load Try.isAgg24 rfl hc65) rfl ?_
              have h := New.out h
              refine WL_val gd0 (o_buildSlice (e := 5) (ps := [(0, .int .u8 0)]) (cs := [.int .u8 0]) (partCons rfl partNil) (fun w => by kernel_rfl)) rfl ?_
              generalize hp66 : fresh w21 = p66 at h ⊢
              generalize hw67 : push w21 5 [.int .u8 0] = w67 at h ⊢
              try dsimp only at h
              obtain ⟨b_a68, b_n69, b_c70, w71, r72, h⟩ := h
              refine WL_val gd0 (o_append rfl rfl r72) rfl ?_
              refine WL_val gd0 ((o_nilCheck (by exact (congrArg Value.pointer q58))) _) rfl ?_
              refine WL_val gd0 ((o_fieldAddr 1 Try.underlying46 rfl Try.sizeOf24 rfl rfl rfl) _) rfl ?_
              obtain ⟨c74, h⟩ := h
              refine WL_act gd0 (o_store (v := .slice b_a68 b_n69 b_c70) Try.sizeOf24 rfl rfl rfl c74) ?_
              generalize hw73 : World.setCell w71 (p57.add 1) (.slice b_a68 b_n69 b_c70) = w73 at h ⊢
              try dsimp only at h
              refine WL_nil ?_
              refine nrm ?_
              exact ⟨e0_15, e1_16, e2_17, rfl, e19_18, e20_19, h⟩
            · rw [if_neg (of_decide_eq_false hb61)] at h
              refine WC_skip ?_
              refine nrm ?_
              exact ⟨e0_15, e1_16, e2_17, rfl, e19_18, e20_19, h⟩
          · rintro ρ w30 ⟨e0_24, e1_25, e2_26, e7_27, e19_28, e20_29, h⟩
            unfold F15_j3 at h
            refine WC_seq ?_
            refine WC_region ?_
            refine WL_val gd0 ((o_move (v := .int .u64 n2) (by exact e1_25)) _) rfl ?_
            refine WL_val gd0 ((o_move (v := .int .i64 width3) (by exact e2_26)) _) rfl ?_
            refine WL_val gd0 ((o_sub rfl rfl) _) rfl ?_
            refine WL_val gd0 ((o_move (v := .int .i64 t20) (by exact e7_27)) _) rfl ?_
            refine WL_val gd0 ((o_sub rfl rfl) _) rfl ?_
            obtain ⟨c31, h⟩ := h
            refine WL_val gd0 ((o_shr rfl rfl c31) _) rfl ?_
            refine WL_val gd0 ((o_and rfl rfl) _) rfl ?_
            refine WL_val gd0 ((o_conv Try.underlying36 Try.underlying5 rfl) _) rfl ?_
            refine WL_val gd0 ((o_assign (v := .int .u8 (IntKind.u8.wrap (band .u64 (shr .u64 n2 (IntKind.i64.wrap ((IntKind.i64.wrap (width3 - 1)) - t20))) 1))) rfl) _) rfl ?_
            refine WL_nil ?_
            refine nrm ?_
            refine WC_seq ?_
            refine WC_draws [21] (.look 0 (.look 1 (.look 2 (.look 3 (.look 4 (.look 5 (.look 6 (.look 7 (.look 8 (.look 9 (.look 10 (.look 11 (.look 12 (.look 13 (.look 14 (.look 15 (.look 16 (.look 17 (.look 18 (.look 19 (.look 20 (.act 21 .nil)))))))))))))))))))))) Try.mixed (by kernel_rfl) ?_
            refine WQ_val rfl gd0 (o_move (v := .pointer w1) (by exact e0_24)) rfl ?_
            obtain ⟨p32, q33, h⟩ := h
            refine WQ_val rfl gd0 (o_nilCheck (by exact (congrArg Value.pointer q33))) rfl ?_
            refine WQ_val rfl gd0 (o_fieldAddr 1 Try.underlying46 rfl Try.sizeOf24 rfl rfl rfl) rfl ?_
            obtain ⟨x_a34, x_n35, x_c36, hc37, h⟩ := h
            refine WQ_look (fun w => w.cell? (p32.add 1) = some (.slice x_a34 x_n35 x_c36)) rfl gd0 (fun w hc => (o_load Try.isAgg24 rfl hc)) hc37 rfl ?_
            refine WQ_val rfl gd0 (o_move (v := .pointer w1) (by exact e0_24)) rfl ?_
            refine WQ_val rfl gd0 (o_nilCheck (by exact (congrArg Value.pointer q33))) rfl ?_
            refine WQ_val rfl gd0 (o_fieldAddr 2 Try.underlying46 rfl Try.sizeOf3 rfl rfl rfl) rfl ?_
            obtain ⟨x38, hc39, h⟩ := h
            refine WQ_look (fun w => w.cell? (p32.add 2) = some (.int .i64 x38)) rfl gd0 (fun w hc => (o_load Try.isAgg3 rfl hc)) hc39 rfl ?_
            refine WQ_val rfl gd0 (fun w => o_quo rfl rfl w (by decide)) rfl ?_
            obtain ⟨p42, q43, h⟩ := h
            obtain ⟨l40, u41, h⟩ := h
            refine WQ_val rfl gd0 (o_indexAddr1 Try.underlying24 Try.sizeOf5 (by exact (congrArg (fun z => Value.slice z x_n35 x_c36) q43)) rfl l40 u41) rfl ?_
            obtain ⟨x44, hc45, h⟩ := h
            refine WQ_look (fun w => w.cell? (p42.add ((IntKind.i64.wrap (Int.tdiv x38 8)).toNat)) = some (.int .u8 x44)) rfl gd0 (fun w hc => (o_load Try.isAgg5 rfl hc)) hc45 rfl ?_
            refine WQ_val rfl gd0 (o_move (v := .int .u8 (IntKind.u8.wrap (band .u64 (shr .u64 n2 (IntKind.i64.wrap ((IntKind.i64.wrap (width3 - 1)) - t20))) 1))) rfl) rfl ?_
            refine WQ_val rfl gd0 (o_move (v := .pointer w1) (by exact e0_24)) rfl ?_
            refine WQ_val rfl gd0 (o_nilCheck (by exact (congrArg Value.pointer q33))) rfl ?_
            refine WQ_val rfl gd0 (o_fieldAddr 2 Try.underlying46 rfl Try.sizeOf3 rfl rfl rfl) rfl ?_
            obtain ⟨x46, hc47, h⟩ := h
            refine WQ_look (fun w => w.cell? (p32.add 2) = some (.int .i64 x46)) rfl gd0 (fun w hc => (o_load Try.isAgg3 rfl hc)) hc47 rfl ?_
            refine WQ_val rfl gd0 (fun w => o_rem rfl rfl w (by decide)) rfl ?_
            refine WQ_val rfl gd0 (o_sub rfl rfl) rfl ?_
            obtain ⟨c48, h⟩ := h
            refine WQ_val rfl gd0 (o_shl rfl rfl c48) rfl ?_
            refine WQ_val rfl gd0 (o_or rfl rfl) rfl ?_
            obtain ⟨l49, u50, h⟩ := h
            refine WQ_val rfl gd0 (o_indexAddr1 Try.underlying24 Try.sizeOf5 (by exact (congrArg (fun z => Value.slice z x_n35 x_c36) q43)) rfl l49 u50) rfl ?_
            obtain ⟨c52, h⟩ := h
            refine WQ_do rfl gd0 (o_store (v := .int .u8 (bor .u8 x44 (shl .u8 (IntKind.u8.wrap (band .u64 (shr .u64 n2 (IntKind.i64.wrap ((IntKind.i64.wrap (width3 - 1)) - t20))) 1)) (IntKind.i64.wrap (7 - (Int.tmod x46 8)))))) Try.sizeOf5 rfl rfl rfl c52) (by exact ⟨⟨⟨⟨trivial, depT (by kernel_rfl)⟩, depT (by kernel_rfl)⟩, depT (by kernel_rfl)⟩, depT (by kernel_rfl)⟩) ?_
            generalize hw51 : World.setCell w30.drew (p42.add ((IntKind.i64.wrap (Int.tdiv x38 8)).toNat)) (.int .u8 (bor .u8 x44 (shl .u8 (IntKind.u8.wrap (band .u64 (shr .u64 n2 (IntKind.i64.wrap ((IntKind.i64.wrap (width3 - 1)) - t20))) 1)) (IntKind.i64.wrap (7 - (Int.tmod x46 8)))))) = w51 at h ⊢
            try dsimp only at h
            refine WQ_nil ?_
            refine nrm ?_
            refine WC_region ?_
            refine WL_val gd0 ((o_move (v := .pointer w1) (by exact e0_24)) _) rfl ?_
            refine WL_val gd0 ((o_nilCheck (by exact (congrArg Value.pointer q33))) _) rfl ?_
            refine WL_val gd0 ((o_fieldAddr 2 Try.underlying46 rfl Try.sizeOf3 rfl rfl rfl) _) rfl ?_
            obtain ⟨x53, hc54, h⟩ := h
            refine WL_val gd0 (o_load Try.isAgg3 rfl hc54) rfl ?_
            refine WL_val gd0 ((o_add rfl rfl) _) rfl ?_
            refine WL_val gd0 ((o_nilCheck (by exact (congrArg Value.pointer q33))) _) rfl ?_
            refine WL_val gd0 ((o_fieldAddr 2 Try.underlying46 rfl Try.sizeOf3 rfl rfl rfl) _) rfl ?_
            obtain ⟨c56, h⟩ := h
            refine WL_act gd0 (o_store (v := .int .i64 (IntKind.i64.wrap (x53 + 1))) Try.sizeOf3 rfl rfl rfl c56) ?_
            generalize hw55 : World.setCell w51 (p32.add 2) (.int .i64 (IntKind.i64.wrap (x53 + 1))) = w55 at h ⊢
            try dsimp only at h
            refine WL_nil ?_
            refine nrmB ?_
            refine nrm ?_
            refine WC_region ?_
            refine WL_val gd0 ((o_add (by exact e20_29) rfl) _) rfl ?_
            refine WL_val gd0 ((o_move (v := .int .i64 (IntKind.i64.wrap (t20 + 1))) rfl) _) rfl ?_
            refine WL_nil ?_
            refine nrm ?_
            obtain ⟨m22, hm22, h⟩ := h
            exact ⟨m22, hm22, _, rfl, e0_24, e1_25, e2_26, e19_28, h⟩
        · rw [if_neg (of_decide_eq_false hb23)] at h
          refine WC_exit ?_
          refine exT ?_
          refine exT ?_
          refine exB ?_
          refine nrm ?_
          refine WC_seq ?_
          refine WC_region ?_
          refine WL_val gd0 ((o_move (v := .pointer w1) (by exact e0_15)) _) rfl ?_
          refine WL_val gd0 ((o_assign (v := .pointer w1) rfl) _) rfl ?_
          refine WL_nil ?_
          refine nrm ?_
          refine WC_ret ?_
          refine rtE ?_
          exact gv1 rfl rfl h

/-- spacecraft clcw.flag -/
def F16 (b1 : Bool) (w2 : World) (k : Value → World → Prop) : Prop :=
  if b1 = true then
  k (.int .u64 1) w2
else
  k (.int .u64 0) w2
set_option maxRecDepth 100000 in
set_option maxHeartbeats 2000000 in
theorem w16 (b1 : Bool) (w2 : World) (k : Value → World → Prop) (h : F16 b1 w2 k) : Does Try.prog 16 #[.bool b1] w2 k := by
  refine enter 4 Try.func16 rfl rfl rfl ?_
  intro ρ hρ
  have e0 := hρ 0 _ rfl
  unfold F16 at h
  refine WC_seq ?_
  refine WC_region ?_
  refine WL_val gd0 ((o_assign (v := .int .u64 0) rfl) _) rfl ?_
  refine WL_nil ?_
  refine nrm ?_
  refine WC_seq ?_
  refine WC_seq ?_
  refine WC_region ?_
  refine WL_val gd0 ((o_move (v := .bool b1) (by exact e0)) _) rfl ?_
  refine WL_nil ?_
  refine nrm ?_
  refine WC_cond (t := b1) rfl (fun hb3 => ?_) (fun hb3 => ?_)
  · rw [if_pos hb3] at h
    refine WC_seq ?_
    refine WC_region ?_
    refine WL_val gd0 ((o_assign (v := .int .u64 1) rfl) _) rfl ?_
    refine WL_nil ?_
    refine nrm ?_
    refine WC_ret ?_
    refine rtT ?_
    refine rtE ?_
    exact gv1 rfl rfl h
  · rw [if_neg (neT hb3)] at h
    refine WC_skip ?_
    refine nrm ?_
    refine WC_seq ?_
    refine WC_region ?_
    refine WL_val gd0 ((o_assign (v := .int .u64 0) rfl) _) rfl ?_
    refine WL_nil ?_
    refine nrm ?_
    refine WC_ret ?_
    refine rtE ?_
    exact gv1 rfl rfl h

/-- (*spacecraft bits.Writer).Bytes -/
def F17 (w1 : Option Addr) (w2 : World) (k : Value → World → Prop) : Prop :=
  Does Try.prog 23 #[.pointer w1] w2 (fun v w3 => ∃ (x4 : Bool), v = .bool x4 ∧ if (!x4) = true then
  k (.slice none 0 0) w3
else
  New w3 5 [] (fun p6 w7 => ∃ (p8 : Addr), w1 = some p8 ∧ ∃ (x_a10 : Option Addr) (x_n11 x_c12 : Nat), w7.cell? (p8.add 1) = some (.slice x_a10 x_n11 x_c12) ∧ ∃ (b_a14 : Option Addr) (b_n15 b_c16 : Nat) (w17 : World), (Builtin.append_ #[24, 24] 24 #[.slice (some p6) 0 0, .slice x_a10 x_n11 x_c12]).run Try.prog w7 = .ok (.slice b_a14 b_n15 b_c16) w17 ∧ k (.slice b_a14 b_n15 b_c16) w17))
set_option maxRecDepth 100000 in
set_option maxHeartbeats 2000000 in
theorem w17 (w1 : Option Addr) (w2 : World) (k : Value → World → Prop) (h : F17 w1 w2 k) : Does Try.prog 17 #[.pointer w1] w2 k := by
  refine enter 12 Try.func17 rfl rfl rfl ?_
  intro ρ hρ
  have e0 := hρ 0 _ rfl
  unfold F17 at h
  refine WC_seq ?_
  refine WC_region ?_
  refine WL_val gd0 ((o_assign (v := .slice none 0 0) rfl) _) rfl ?_
  refine WL_nil ?_
  refine nrm ?_
  refine WC_seq ?_
  refine WC_seq ?_
  refine WC_region ?_
  refine WL_val gd0 ((o_move (v := .pointer w1) (by exact e0)) _) rfl ?_
  refine WL_call gd0 (o_call Try.call23 (argCons rfl argNil) _) rfl (h.mono ?_)
  rintro _ w3 ⟨x4, rfl, h⟩
  refine WL_val gd0 ((o_not rfl) _) rfl ?_
  refine WL_nil ?_
  refine nrm ?_
  refine WC_cond (t := (!x4)) rfl (fun hb5 => ?_) (fun hb5 => ?_)
  · rw [if_pos hb5] at h
    refine WC_seq ?_
    refine WC_region ?_
    refine WL_val gd0 ((o_assign (v := .slice none 0 0) rfl) _) rfl ?_
    refine WL_nil ?_
    refine nrm ?_
    refine WC_ret ?_
    refine rtT ?_
    refine rtE ?_
    exact gv1 rfl rfl h
  · rw [if_neg (neT hb5)] at h
    refine WC_skip ?_
    refine nrm ?_
    refine WC_seq ?_
    refine WC_region ?_
    have h := New.out h
    refine WL_val gd0 (o_buildSlice (e := 5) (ps := []) (cs := []) partNil (fun w => by kernel_rfl)) rfl ?_
    generalize hp6 : fresh w3 = p6 at h ⊢
    generalize hw7 : push w3 5 [] = w7 at h ⊢
    try dsimp only at h
    refine WL_val gd0 ((o_move (v := .pointer w1) (by exact e0)) _) rfl ?_
    obtain ⟨p8, q9, h⟩ := h
    refine WL_val gd0 ((o_nilCheck (by exact (congrArg Value.pointer q9))) _) rfl ?_
    refine WL_val gd0 ((o_fieldAddr 1 Try.underlying46 rfl Try.sizeOf24 rfl rfl rfl) _) rfl ?_
    obtain ⟨x_a10, x_n11, x_c12, hc13, h⟩ := h
    refine WL_val gd0 (o_load Try.isAgg24 rfl hc13) rfl ?_
    obtain ⟨b_a14, b_n15, b_c16, w17, r18, h⟩ := h
    refine WL_val gd0 (o_append rfl rfl r18) rfl ?_
    refine WL_val gd0 ((o_assign (v := .slice b_a14 b_n15 b_c16) rfl) _) rfl ?_
    refine WL_nil ?_
    refine nrm ?_
    refine WC_ret ?_
    refine rtE ?_
    exact gv1 rfl rfl h

/-- spacecraft spacecraftref15.flag -/
def F18 (is1 : Bool) (n2 : Int) (w3 : World) (k : Value → World → Prop) : Prop :=
  if is1 = true then
  k (.int .i64 n2) w3
else
  k (.int .i64 0) w3
set_option maxRecDepth 100000 in
set_option maxHeartbeats 2000000 in
theorem w18 (is1 : Bool) (n2 : Int) (w3 : World) (k : Value → World → Prop) (h : F18 is1 n2 w3 k) : Does Try.prog 18 #[.bool is1, .int .i64 n2] w3 k := by
  refine enter 7 Try.func18 rfl rfl rfl ?_
  intro ρ hρ
  have e0 := hρ 0 _ rfl
  have e1 := hρ 1 _ rfl
  unfold F18 at h
  refine WC_seq ?_
  refine WC_region ?_
  refine WL_val gd0 ((o_assign (v := .int .i64 0) rfl) _) rfl ?_
  refine WL_nil ?_
  refine nrm ?_
  refine WC_seq ?_
  refine WC_seq ?_
  refine WC_region ?_
  refine WL_val gd0 ((o_move (v := .bool is1) (by exact e0)) _) rfl ?_
  refine WL_nil ?_
  refine nrm ?_
  refine WC_cond (t := is1) rfl (fun hb4 => ?_) (fun hb4 => ?_)
  · rw [if_pos hb4] at h
    refine WC_seq ?_
    refine WC_region ?_
    refine WL_val gd0 ((o_move (v := .int .i64 n2) (by exact e1)) _) rfl ?_
    refine WL_val gd0 ((o_assign (v := .int .i64 n2) rfl) _) rfl ?_
    refine WL_nil ?_
    refine nrm ?_
    refine WC_ret ?_
    refine rtT ?_
    refine rtE ?_
    exact gv1 rfl rfl h
  · rw [if_neg (neT hb4)] at h
    refine WC_skip ?_
    refine nrm ?_
    refine WC_seq ?_
    refine WC_region ?_
    refine WL_val gd0 ((o_assign (v := .int .i64 0) rfl) _) rfl ?_
    refine WL_nil ?_
    refine nrm ?_
    refine WC_ret ?_
    refine rtE ?_
    exact gv1 rfl rfl h

/-- spacecraft bits.NewReader -/
def F19 (b_a1 : Option Addr) (b_n2 : Nat) (b_c3 : Nat) (w4 : World) (k : Value → World → Prop) : Prop :=
  New w4 5 [] (fun p5 w6 => ∃ (b_a7 : Option Addr) (b_n8 b_c9 : Nat) (w10 : World), (Builtin.append_ #[24, 24] 24 #[.slice (some p5) 0 0, .slice b_a1 b_n2 b_c3]).run Try.prog w6 = .ok (.slice b_a7 b_n8 b_c9) w10 ∧ New w10 48 [.bool true, .slice b_a7 b_n8 b_c9, .int .i64 0, .bool false] (fun p12 w13 => k (.pointer (some p12)) w13))
set_option maxRecDepth 100000 in
set_option maxHeartbeats 2000000 in
theorem w19 (b_a1 : Option Addr) (b_n2 : Nat) (b_c3 : Nat) (w4 : World) (k : Value → World → Prop) (h : F19 b_a1 b_n2 b_c3 w4 k) : Does Try.prog 19 #[.slice b_a1 b_n2 b_c3] w4 k := by
  refine enter 8 Try.func19 rfl rfl rfl ?_
  intro ρ hρ
  have e0 := hρ 0 _ rfl
  unfold F19 at h
  refine WC_seq ?_
  refine WC_region ?_
  refine WL_val gd0 ((o_assign (v := .pointer none) rfl) _) rfl ?_
  refine WL_nil ?_
  refine nrm ?_
  refine WC_seq ?_
  refine WC_region ?_
  have h := New.out h
  refine WL_val gd0 (o_buildSlice (e := 5) (ps := []) (cs := []) partNil (fun w => by kernel_rfl)) rfl ?_
  generalize hp5 : fresh w4 = p5 at h ⊢
  generalize hw6 : push w4 5 [] = w6 at h ⊢
  try dsimp only at h
  refine WL_val gd0 ((o_move (v := .slice b_a1 b_n2 b_c3) (by exact e0)) _) rfl ?_
  obtain ⟨b_a7, b_n8, b_c9, w10, r11, h⟩ := h
  refine WL_val gd0 (o_append rfl rfl r11) rfl ?_
  refine WL_val gd0 ((o_build (ps := [(0, .bool true), (1, .slice b_a7 b_n8 b_c9)]) (v := .agg #[.bool true, .slice b_a7 b_n8 b_c9, .int .i64 0, .bool false]) (partCons rfl (partCons rfl partNil)) (fun w => by kernel_rfl)) _) rfl ?_
  have h := New.out h
  refine WL_val gd0 (o_box (v := .agg #[.bool true, .slice b_a7 b_n8 b_c9, .int .i64 0, .bool false]) (cs := [.bool true, .slice b_a7 b_n8 b_c9, .int .i64 0, .bool false]) rfl rfl) rfl ?_
  generalize hp12 : fresh w10 = p12 at h ⊢
  generalize hw13 : push w10 48 [.bool true, .slice b_a7 b_n8 b_c9, .int .i64 0, .bool false] = w13 at h ⊢
  try dsimp only at h
  refine WL_val gd0 ((o_assign (v := .pointer (some p12)) rfl) _) rfl ?_
  refine WL_nil ?_
  refine nrm ?_
  refine WC_ret ?_
  refine rtE ?_
  exact gv1 rfl rfl h

def F20_j1 (r1 : Option Addr) (width2 : Int) (t10 : Bool) (w11 : World) (k : Value → World → Prop) : Prop :=
  if t10 = true then
  ∃ (p13 : Addr), r1 = some p13 ∧ Put w11 (p13.add 3) (.bool true) (fun w15 => k (.tuple #[]) w15)
else
  ∃ (p17 : Addr), r1 = some p17 ∧ ∃ (x19 : Int), w11.cell? (p17.add 2) = some (.int .i64 x19) ∧ Put w11 (p17.add 2) (.int .i64 (IntKind.i64.wrap (x19 + width2))) (fun w21 => k (.tuple #[]) w21)
/-- (*spacecraft bits.Reader).Skip -/
def F20 (r1 : Option Addr) (width2 : Int) (w3 : World) (k : Value → World → Prop) : Prop :=
  Does Try.prog 24 #[.pointer r1] w3 (fun v w4 => ∃ (x5 : Bool), v = .bool x5 ∧ if (!x5) = true then
  k (.tuple #[]) w4
else
  if width2 < 0 then
    F20_j1 r1 width2 true w4 k
  else
    Does Try.prog 25 #[.pointer r1] w4 (fun v w24 => ∃ (x25 : Int), v = .int .i64 x25 ∧ F20_j1 r1 width2 (decide (x25 < width2)) w24 k))
set_option maxRecDepth 100000 in
set_option maxHeartbeats 2000000 in
theorem w20 (r1 : Option Addr) (width2 : Int) (w3 : World) (k : Value → World → Prop) (h : F20 r1 width2 w3 k) : Does Try.prog 20 #[.pointer r1, .int .i64 width2] w3 k := by
  refine enter 26 Try.func20 rfl rfl rfl ?_
  intro ρ hρ
  have e0 := hρ 0 _ rfl
  have e1 := hρ 1 _ rfl
  unfold F20 at h
  refine WC_seq ?_
  refine WC_seq ?_
  refine WC_region ?_
  refine WL_val gd0 ((o_move (v := .pointer r1) (by exact e0)) _) rfl ?_
  refine WL_call gd0 (o_call Try.call24 (argCons rfl argNil) _) rfl (h.mono ?_)
  rintro _ w4 ⟨x5, rfl, h⟩
  refine WL_val gd0 ((o_not rfl) _) rfl ?_
  refine WL_nil ?_
  refine nrm ?_
  refine WC_cond (t := (!x5)) rfl (fun hb6 => ?_) (fun hb6 => ?_)
  · rw [if_pos hb6] at h
    refine WC_ret ?_
    refine rtT ?_
    refine rtE ?_
    exact gv0 rfl h
  · rw [if_neg (neT hb6)] at h
    refine WC_skip ?_
    refine nrm ?_
    refine WC_seq ?_
    refine WC_cut (fun ρ w' => ∃ (t10 : Bool), ρ 14 = .bool t10 ∧ ρ 0 = .pointer r1 ∧ ρ 1 = .int .i64 width2 ∧ F20_j1 r1 width2 t10 w' k) ?_ ?_
    · refine WC_region ?_
      refine WL_val gd0 ((o_move (v := .int .i64 width2) (by exact e1)) _) rfl ?_
      refine WL_val gd0 ((o_lss rfl rfl) _) rfl ?_
      refine WL_val gd0 ((o_move (v := .bool (decide (width2 < 0))) rfl) _) rfl ?_
      refine bsplit (decide (width2 < 0)) (fun hb23 => ?_) (fun hb23 => ?_)
      · rw [if_pos (of_decide_eq_true hb23)] at h
        refine WL_skip (gdN (b := (decide (width2 < 0))) 9 rfl rfl hb23) rfl ?_
        refine WL_skip (gdN (b := (decide (width2 < 0))) 9 rfl rfl hb23) rfl ?_
        refine WL_skip (gdN (b := (decide (width2 < 0))) 9 rfl rfl hb23) rfl ?_
        refine WL_skip (gdN (b := (decide (width2 < 0))) 9 rfl rfl hb23) rfl ?_
        refine WL_val gd0 ((o_pickT (v := .bool true) rfl hb23 rfl) _) rfl ?_
        refine WL_nil ?_
        refine nrm ?_
        exact ⟨_, rfl, e0, e1, h⟩
      · rw [if_neg (of_decide_eq_false hb23)] at h
        refine WL_val (gdY (b := (decide (width2 < 0))) 9 rfl rfl hb23) ((o_move (v := .int .i64 width2) (by exact e1)) _) rfl ?_
        refine WL_val (gdY (b := (decide (width2 < 0))) 9 rfl rfl hb23) ((o_move (v := .pointer r1) (by exact e0)) _) rfl ?_
        refine WL_call (gdY (b := (decide (width2 < 0))) 9 rfl rfl hb23) (o_call Try.call25 (argCons rfl argNil) _) rfl (h.mono ?_)
        rintro _ w24 ⟨x25, rfl, h⟩
        refine WL_val (gdY (b := (decide (width2 < 0))) 9 rfl rfl hb23) ((o_gtr rfl rfl) _) rfl ?_
        refine WL_val gd0 ((o_pickF (v := .bool (decide (x25 < width2))) rfl hb23 rfl) _) rfl ?_
        refine WL_nil ?_
        refine nrm ?_
        exact ⟨_, rfl, e0, e1, h⟩
    · rintro ρ w11 ⟨t10, e14_9, e0_7, e1_8, h⟩
      unfold F20_j1 at h
      refine WC_cond (t := t10) (by exact e14_9) (fun hb12 => ?_) (fun hb12 => ?_)
      · rw [if_pos hb12] at h
        refine WC_seq ?_
        refine WC_region ?_
        refine WL_val gd0 ((o_move (v := .pointer r1) (by exact e0_7)) _) rfl ?_
        obtain ⟨p13, q14, h⟩ := h
        refine WL_val gd0 ((o_nilCheck (by exact (congrArg Value.pointer q14))) _) rfl ?_
        refine WL_val gd0 ((o_fieldAddr 3 Try.underlying48 rfl Try.sizeOf4 rfl rfl rfl) _) rfl ?_
        obtain ⟨c16, h⟩ := h
        refine WL_act gd0 (o_store (v := .bool true) Try.sizeOf4 rfl rfl rfl c16) ?_
        generalize hw15 : World.setCell w11 (p13.add 3) (.bool true) = w15 at h ⊢
        try dsimp only at h
        refine WL_nil ?_
        refine nrm ?_
        refine WC_ret ?_
        refine rtT ?_
        refine rtE ?_
        exact gv0 rfl h
      · rw [if_neg (neT hb12)] at h
        refine WC_skip ?_
        refine nrm ?_
        refine WC_region ?_
        refine WL_val gd0 ((o_move (v := .pointer r1) (by exact e0_7)) _) rfl ?_
        obtain ⟨p17, q18, h⟩ := h
        refine WL_val gd0 ((o_nilCheck (by exact (congrArg Value.pointer q18))) _) rfl ?_
        refine WL_val gd0 ((o_fieldAddr 2 Try.underlying48 rfl Try.sizeOf3 rfl rfl rfl) _) rfl ?_
        obtain ⟨x19, hc20, h⟩ := h
        refine WL_val gd0 (o_load Try.isAgg3 rfl hc20) rfl ?_
        refine WL_val gd0 ((o_move (v := .int .i64 width2) (by exact e1_8)) _) rfl ?_
        refine WL_val gd0 ((o_add rfl rfl) _) rfl ?_
        refine WL_val gd0 ((o_nilCheck (by exact (congrArg Value.pointer q18))) _) rfl ?_
        refine WL_val gd0 ((o_fieldAddr 2 Try.underlying48 rfl Try.sizeOf3 rfl rfl rfl) _) rfl ?_
        obtain ⟨c22, h⟩ := h
        refine WL_act gd0 (o_store (v := .int .i64 (IntKind.i64.wrap (x19 + width2))) Try.sizeOf3 rfl rfl rfl c22) ?_
        generalize hw21 : World.setCell w11 (p17.add 2) (.int .i64 (IntKind.i64.wrap (x19 + width2))) = w21 at h ⊢
        try dsimp only at h
        refine WL_nil ?_
        refine ndE ?_
        exact gv0 rfl h

def F21_b2 (width2 : Int) (r1 : Option Addr) (n19 : Int) (t22 : Int) (w23 : World) (nx23 : Int → Int → World → Prop) (k : Value → World → Prop) : Prop :=
  if t22 < width2 then
  ∃ (p26 : Addr), r1 = some p26 ∧ ∃ (x_a28 : Option Addr) (x_n29 x_c30 : Nat), w23.drew.cell? (p26.add 1) = some (.slice x_a28 x_n29 x_c30) ∧ ∃ (x32 : Int), w23.drew.cell? (p26.add 2) = some (.int .i64 x32) ∧ ∃ (p36 : Addr), x_a28 = some p36 ∧ (0 : Int) ≤ IntKind.i64.wrap (Int.tdiv x32 8) ∧ IntKind.i64.wrap (Int.tdiv x32 8) < (x_n29 : Int) ∧ ∃ (x38 : Int), w23.drew.cell? (p36.add ((IntKind.i64.wrap (Int.tdiv x32 8)).toNat)) = some (.int .u8 x38) ∧ ∃ (x40 : Int), w23.drew.cell? (p26.add 2) = some (.int .i64 x40) ∧ (0 : Int) ≤ IntKind.i64.wrap (7 - (Int.tmod x40 8)) ∧ ∃ (x43 : Int), w23.drew.cell? (p26.add 2) = some (.int .i64 x43) ∧ Put w23.drew (p26.add 2) (.int .i64 (IntKind.i64.wrap (x43 + 1))) (fun w45 => nx23 (bor .u64 (shl .u64 n19 1) (IntKind.u64.wrap (band .u8 (shr .u8 x38 (IntKind.i64.wrap (7 - (Int.tmod x40 8)))) 1))) (IntKind.i64.wrap (t22 + 1)) w45)
else
  k (.int .u64 n19) w23
def F21_j1 (r1 : Option Addr) (width2 : Int) (t10 : Bool) (w11 : World) (k : Value → World → Prop) : Prop :=
  if t10 = true then
  ∃ (p13 : Addr), r1 = some p13 ∧ Put w11 (p13.add 3) (.bool true) (fun w15 => k (.int .u64 0) w15)
else
  LoopP (fun (s : Int × Int) w' nx' => F21_b2 width2 r1 (s.1) (s.2) w' (fun x0 x1 w => nx' (x0, x1) w) k) (0, 0) w11
/-- (*spacecraft bits.Reader).Get -/
def F21 (r1 : Option Addr) (width2 : Int) (w3 : World) (k : Value → World → Prop) : Prop :=
  Does Try.prog 24 #[.pointer r1] w3 (fun v w4 => ∃ (x5 : Bool), v = .bool x5 ∧ if (!x5) = true then
  k (.int .u64 0) w4
else
  if width2 < 0 then
    F21_j1 r1 width2 true w4 k
  else
    if 64 < width2 then
      F21_j1 r1 width2 true w4 k
    else
      Does Try.prog 25 #[.pointer r1] w4 (fun v w49 => ∃ (x50 : Int), v = .int .i64 x50 ∧ F21_j1 r1 width2 (decide (x50 < width2)) w49 k))
set_option maxRecDepth 100000 in
set_option maxHeartbeats 2000000 in
theorem w21 (r1 : Option Addr) (width2 : Int) (w3 : World) (k : Value → World → Prop) (h : F21 r1 width2 w3 k) : Does Try.prog 21 #[.pointer r1, .int .i64 width2] w3 k := by
  refine enter 59 Try.func21 rfl rfl rfl ?_
  intro ρ hρ
  have e0 := hρ 0 _ rfl
  have e1 := hρ 1 _ rfl
  unfold F21 at h
  refine WC_seq ?_
  refine WC_region ?_
  refine WL_val gd0 ((o_assign (v := .int .u64 0) rfl) _) rfl ?_
  refine WL_nil ?_
  refine nrm ?_
  refine WC_seq ?_
  refine WC_seq ?_
  refine WC_region ?_
  refine WL_val gd0 ((o_move (v := .pointer r1) (by exact e0)) _) rfl ?_
  refine WL_call gd0 (o_call Try.call24 (argCons rfl argNil) _) rfl (h.mono ?_)
  rintro _ w4 ⟨x5, rfl, h⟩
  refine WL_val gd0 ((o_not rfl) _) rfl ?_
  refine WL_nil ?_
  refine nrm ?_
  refine WC_cond (t := (!x5)) rfl (fun hb6 => ?_) (fun hb6 => ?_)
  · rw [if_pos hb6] at h
    refine WC_seq ?_
    refine WC_region ?_
    refine WL_val gd0 ((o_assign (v := .int .u64 0) rfl) _) rfl ?_
    refine WL_nil ?_
    refine nrm ?_
    refine WC_ret ?_
    refine rtT ?_
    refine rtE ?_
    exact gv1 rfl rfl h
  · rw [if_neg (neT hb6)] at h
    refine WC_skip ?_
    refine nrm ?_
    refine WC_seq ?_
    refine WC_cut (fun ρ w' => ∃ (t10 : Bool), ρ 20 = .bool t10 ∧ ρ 0 = .pointer r1 ∧ ρ 1 = .int .i64 width2 ∧ F21_j1 r1 width2 t10 w' k) ?_ ?_
    · refine WC_region ?_
      refine WL_val gd0 ((o_move (v := .int .i64 width2) (by exact e1)) _) rfl ?_
      refine WL_val gd0 ((o_lss rfl rfl) _) rfl ?_
      refine WL_val gd0 ((o_move (v := .bool (decide (width2 < 0))) rfl) _) rfl ?_
      refine bsplit (decide (width2 < 0)) (fun hb47 => ?_) (fun hb47 => ?_)
      · rw [if_pos (of_decide_eq_true hb47)] at h
        refine WL_skip (gdN (b := (decide (width2 < 0))) 11 rfl rfl hb47) rfl ?_
        refine WL_skip (gdN (b := (decide (width2 < 0))) 11 rfl rfl hb47) rfl ?_
        refine WL_val gd0 ((o_pickT (v := .bool true) rfl hb47 rfl) _) rfl ?_
        refine WL_val gd0 ((o_move (v := .bool true) rfl) _) rfl ?_
        refine WL_skip (gdN (b := true) 15 rfl rfl rfl) rfl ?_
        refine WL_skip (gdN (b := true) 15 rfl rfl rfl) rfl ?_
        refine WL_skip (gdN (b := true) 15 rfl rfl rfl) rfl ?_
        refine WL_skip (gdN (b := true) 15 rfl rfl rfl) rfl ?_
        refine WL_val gd0 ((o_pickT (v := .bool true) rfl rfl rfl) _) rfl ?_
        refine WL_nil ?_
        refine nrm ?_
        exact ⟨_, rfl, e0, e1, h⟩
      · rw [if_neg (of_decide_eq_false hb47)] at h
        refine WL_val (gdY (b := (decide (width2 < 0))) 11 rfl rfl hb47) ((o_move (v := .int .i64 width2) (by exact e1)) _) rfl ?_
        refine WL_val (gdY (b := (decide (width2 < 0))) 11 rfl rfl hb47) ((o_gtr rfl rfl) _) rfl ?_
        refine WL_val gd0 ((o_pickF (v := .bool (decide (64 < width2))) rfl hb47 rfl) _) rfl ?_
        refine WL_val gd0 ((o_move (v := .bool (decide (64 < width2))) rfl) _) rfl ?_
        refine bsplit (decide (64 < width2)) (fun hb48 => ?_) (fun hb48 => ?_)
        · rw [if_pos (of_decide_eq_true hb48)] at h
          refine WL_skip (gdN (b := (decide (64 < width2))) 15 rfl rfl hb48) rfl ?_
          refine WL_skip (gdN (b := (decide (64 < width2))) 15 rfl rfl hb48) rfl ?_
          refine WL_skip (gdN (b := (decide (64 < width2))) 15 rfl rfl hb48) rfl ?_
          refine WL_skip (gdN (b := (decide (64 < width2))) 15 rfl rfl hb48) rfl ?_
          refine WL_val gd0 ((o_pickT (v := .bool true) rfl hb48 rfl) _) rfl ?_
          refine WL_nil ?_
          refine nrm ?_
          exact ⟨_, rfl, e0, e1, h⟩
        · rw [if_neg (of_decide_eq_false hb48)] at h
          refine WL_val (gdY (b := (decide (64 < width2))) 15 rfl rfl hb48) ((o_move (v := .int .i64 width2) (by exact e1)) _) rfl ?_
          refine WL_val (gdY (b := (decide (64 < width2))) 15 rfl rfl hb48) ((o_move (v := .pointer r1) (by exact e0)) _) rfl ?_
          refine WL_call (gdY (b := (decide (64 < width2))) 15 rfl rfl hb48) (o_call Try.call25 (argCons rfl argNil) _) rfl (h.mono ?_)
          rintro _ w49 ⟨x50, rfl, h⟩
          refine WL_val (gdY (b := (decide (64 < width2))) 15 rfl rfl hb48) ((o_gtr rfl rfl) _) rfl ?_
          refine WL_val gd0 ((o_pickF (v := .bool (decide (x50 < width2))) rfl hb48 rfl) _) rfl ?_
          refine WL_nil ?_
          refine nrm ?_
          exact ⟨_, rfl, e0, e1, h⟩
    · rintro ρ w11 ⟨t10, e20_9, e0_7, e1_8, h⟩
      unfold F21_j1 at h
      refine WC_cond (t := t10) (by exact e20_9) (fun hb12 => ?_) (fun hb12 => ?_)
      · rw [if_pos hb12] at h
        refine WC_seq ?_
        refine WC_region ?_
        refine WL_val gd0 ((o_move (v := .pointer r1) (by exact e0_7)) _) rfl ?_
        obtain ⟨p13, q14, h⟩ := h
        refine WL_val gd0 ((o_nilCheck (by exact (congrArg Value.pointer q14))) _) rfl ?_
        refine WL_val gd0 ((o_fieldAddr 3 Try.underlying48 rfl Try.sizeOf4 rfl rfl rfl) _) rfl ?_
        obtain ⟨c16, h⟩ := h
        refine WL_act gd0 (o_store (v := .bool true) Try.sizeOf4 rfl rfl rfl c16) ?_
        generalize hw15 : World.setCell w11 (p13.add 3) (.bool true) = w15 at h ⊢
        try dsimp only at h
        refine WL_nil ?_
        refine nrm ?_
        refine WC_seq ?_
        refine WC_region ?_
        refine WL_val gd0 ((o_assign (v := .int .u64 0) rfl) _) rfl ?_
        refine WL_nil ?_
        refine nrm ?_
        refine WC_ret ?_
        refine rtT ?_
        refine rtE ?_
        exact gv1 rfl rfl h
      · rw [if_neg (neT hb12)] at h
        refine WC_skip ?_
        refine nrm ?_
        refine WC_seq ?_
        refine WC_region ?_
        refine WL_val gd0 ((o_assign (v := .int .u64 0) rfl) _) rfl ?_
        refine WL_nil ?_
        refine nrm ?_
        refine WC_seq ?_
        refine WC_seq ?_
        refine WC_region ?_
        refine WL_val gd0 ((o_move (v := .int .i64 width2) (by exact e1_8)) _) rfl ?_
        refine WL_val gd0 ((o_move (v := .int .i64 0) rfl) _) rfl ?_
        refine WL_nil ?_
        refine nrm ?_
        refine WC_block ?_
        obtain ⟨J23, ⟨n23, h0⟩, hr23⟩ := h
        refine WC_loop (fun n ρ w' => ∃ (n19 t22 : Int), ρ 5 = .int .u64 n19 ∧ ρ 25 = .int .i64 t22 ∧ ρ 0 = .pointer r1 ∧ ρ 24 = .int .i64 width2 ∧ J23 n (n19, t22) w') ⟨n23, _, _, rfl, rfl, e0_7, rfl, h0⟩ ?_
        rintro n23 ρ w23 ⟨n19, t22, e5_18, e25_21, e0_17, e24_20, h⟩
        have h : F21_b2 width2 r1 n19 t22 w23 (fun x0 x1 w => ∃ m, m < n23 ∧ J23 m (x0, x1) w) k := hr23 n23 (n19, t22) w23 h
        unfold F21_b2 at h
        refine WC_seq ?_
        refine WC_region ?_
        refine WL_val gd0 ((o_lss (by exact e25_21) (by exact e24_20)) _) rfl ?_
        refine WL_nil ?_
        refine nrm ?_
        refine WC_seq ?_
        refine WC_cond (t := (decide (t22 < width2))) rfl (fun hb25 => ?_) (fun hb25 => ?_)
        · rw [if_pos (of_decide_eq_true hb25)] at h
          refine WC_skip ?_
          refine nrm ?_
          refine WC_seq ?_
          refine WC_block ?_
          refine WC_seq ?_
          refine WC_draws [] (.look 0 (.look 1 (.look 2 (.look 3 (.look 4 (.look 5 (.look 6 (.look 7 (.look 8 (.look 9 (.look 10 (.look 11 (.look 12 (.look 13 (.look 14 (.look 15 (.look 16 (.look 17 (.look 18 (.look 19 (.look 20 (.look 21 (.look 22 (.look 23 .nil)))))))))))))))))))))))) Try.mixed (by kernel_rfl) ?_
          refine WQ_val rfl gd0 (o_move (v := .int .u64 n19) (by exact e5_18)) rfl ?_
          refine WQ_val rfl gd0 (o_shl rfl rfl (by decide)) rfl ?_
          refine WQ_val rfl gd0 (o_move (v := .pointer r1) (by exact e0_17)) rfl ?_
          obtain ⟨p26, q27, h⟩ := h
          refine WQ_val rfl gd0 (o_nilCheck (by exact (congrArg Value.pointer q27))) rfl ?_
          refine WQ_val rfl gd0 (o_fieldAddr 1 Try.underlying48 rfl Try.sizeOf24 rfl rfl rfl) rfl ?_
          obtain ⟨x_a28, x_n29, x_c30, hc31, h⟩ := h
          refine WQ_look (fun w => w.cell? (p26.add 1) = some (.slice x_a28 x_n29 x_c30)) rfl gd0 (fun w hc => (o_load Try.isAgg24 rfl hc)) hc31 rfl ?_
          refine WQ_val rfl gd0 (o_move (v := .pointer r1) (by exact e0_17)) rfl ?_
          refine WQ_val rfl gd0 (o_nilCheck (by exact (congrArg Value.pointer q27))) rfl ?_
          refine WQ_val rfl gd0 (o_fieldAddr 2 Try.underlying48 rfl Try.sizeOf3 rfl rfl rfl) rfl ?_
          obtain ⟨x32, hc33, h⟩ := h
          refine WQ_look (fun w => w.cell? (p26.add 2) = some (.int .i64 x32)) rfl gd0 (fun w hc => (o_load Try.isAgg3 rfl hc)) hc33 rfl ?_
          refine WQ_val rfl gd0 (fun w => o_quo rfl rfl w (by decide)) rfl ?_
          obtain ⟨p36, q37, h⟩ := h
          obtain ⟨l34, u35, h⟩ := h
          refine WQ_val rfl gd0 (o_indexAddr1 Try.underlying24 Try.sizeOf5 (by exact (congrArg (fun z => Value.slice z x_n29 x_c30) q37)) rfl l34 u35) rfl ?_
          obtain ⟨x38, hc39, h⟩ := h
          refine WQ_look (fun w => w.cell? (p36.add ((IntKind.i64.wrap (Int.tdiv x32 8)).toNat)) = some (.int .u8 x38)) rfl gd0 (fun w hc => (o_load Try.isAgg5 rfl hc)) hc39 rfl ?_
          refine WQ_val rfl gd0 (o_move (v := .pointer r1) (by exact e0_17)) rfl ?_
          refine WQ_val rfl gd0 (o_nilCheck (by exact (congrArg Value.pointer q27))) rfl ?_
          refine WQ_val rfl gd0 (o_fieldAddr 2 Try.underlying48 rfl Try.sizeOf3 rfl rfl rfl) rfl ?_
          obtain ⟨x40, hc41, h⟩ := h
          refine WQ_look (fun w => w.cell? (p26.add 2) = some (.int .i64 x40)) rfl gd0 (fun w hc => (o_load Try.isAgg3 rfl hc)) hc41 rfl ?_
          refine WQ_val rfl gd0 (fun w => o_rem rfl rfl w (by decide)) rfl ?_
          refine WQ_val rfl gd0 (o_sub rfl rfl) rfl ?_
          obtain ⟨c42, h⟩ := h
          refine WQ_val rfl gd0 (o_shr rfl rfl c42) rfl ?_
          refine WQ_val rfl gd0 (o_and rfl rfl) rfl ?_
          refine WQ_val rfl gd0 (o_conv Try.underlying5 Try.underlying36 rfl) rfl ?_
          refine WQ_val rfl gd0 (o_or rfl rfl) rfl ?_
          refine WQ_val rfl gd0 (o_assign (v := .int .u64 (bor .u64 (shl .u64 n19 1) (IntKind.u64.wrap (band .u8 (shr .u8 x38 (IntKind.i64.wrap (7 - (Int.tmod x40 8)))) 1)))) rfl) rfl ?_
          refine WQ_nil ?_
          refine nrm ?_
          refine WC_region ?_
          refine WL_val gd0 ((o_move (v := .pointer r1) (by exact e0_17)) _) rfl ?_
          refine WL_val gd0 ((o_nilCheck (by exact (congrArg Value.pointer q27))) _) rfl ?_
          refine WL_val gd0 ((o_fieldAddr 2 Try.underlying48 rfl Try.sizeOf3 rfl rfl rfl) _) rfl ?_
          obtain ⟨x43, hc44, h⟩ := h
          refine WL_val gd0 (o_load Try.isAgg3 rfl hc44) rfl ?_
          refine WL_val gd0 ((o_add rfl rfl) _) rfl ?_
          refine WL_val gd0 ((o_nilCheck (by exact (congrArg Value.pointer q27))) _) rfl ?_
          refine WL_val gd0 ((o_fieldAddr 2 Try.underlying48 rfl Try.sizeOf3 rfl rfl rfl) _) rfl ?_
          obtain ⟨c46, h⟩ := h
          refine WL_act gd0 (o_store (v := .int .i64 (IntKind.i64.wrap (x43 + 1))) Try.sizeOf3 rfl rfl rfl c46) ?_
          generalize hw45 : World.setCell w23.drew (p26.add 2) (.int .i64 (IntKind.i64.wrap (x43 + 1))) = w45 at h ⊢
          try dsimp only at h
          refine WL_nil ?_
          refine nrmB ?_
          refine nrm ?_
          refine WC_region ?_
          refine WL_val gd0 ((o_add (by exact e25_21) rfl) _) rfl ?_
          refine WL_val gd0 ((o_move (v := .int .i64 (IntKind.i64.wrap (t22 + 1))) rfl) _) rfl ?_
          refine WL_nil ?_
          refine nrm ?_
          obtain ⟨m24, hm24, h⟩ := h
          exact ⟨m24, hm24, _, _, rfl, rfl, e0_17, e24_20, h⟩
        · rw [if_neg (of_decide_eq_false hb25)] at h
          refine WC_exit ?_
          refine exT ?_
          refine exT ?_
          refine exB ?_
          refine nrm ?_
          refine WC_seq ?_
          refine WC_region ?_
          refine WL_val gd0 ((o_move (v := .int .u64 n19) (by exact e5_18)) _) rfl ?_
          refine WL_val gd0 ((o_assign (v := .int .u64 n19) rfl) _) rfl ?_
          refine WL_nil ?_
          refine nrm ?_
          refine WC_ret ?_
          refine rtE ?_
          exact gv1 rfl rfl h

/-- bytes.Equal -/
def F22 (a_a1 : Option Addr) (a_n2 : Nat) (a_c3 : Nat) (b_a4 : Option Addr) (b_n5 : Nat) (b_c6 : Nat) (w7 : World) (k : Value → World → Prop) : Prop :=
  ∃ (s8 : ByteArray), (Conv.bytesToString (.slice a_a1 a_n2 a_c3)).run Try.prog w7 = .ok (.string s8) w7 ∧ ∃ (s10 : ByteArray), (Conv.bytesToString (.slice b_a4 b_n5 b_c6)).run Try.prog w7 = .ok (.string s10) w7 ∧ k (.bool (s8.toList == s10.toList)) w7
set_option maxRecDepth 100000 in
set_option maxHeartbeats 2000000 in
theorem w22 (a_a1 : Option Addr) (a_n2 : Nat) (a_c3 : Nat) (b_a4 : Option Addr) (b_n5 : Nat) (b_c6 : Nat) (w7 : World) (k : Value → World → Prop) (h : F22 a_a1 a_n2 a_c3 b_a4 b_n5 b_c6 w7 k) : Does Try.prog 22 #[.slice a_a1 a_n2 a_c3, .slice b_a4 b_n5 b_c6] w7 k := by
  refine enter 10 Try.func22 rfl rfl rfl ?_
  intro ρ hρ
  have e0 := hρ 0 _ rfl
  have e1 := hρ 1 _ rfl
  unfold F22 at h
  refine WC_seq ?_
  refine WC_region ?_
  refine WL_val gd0 ((o_assign (v := .bool false) rfl) _) rfl ?_
  refine WL_nil ?_
  refine nrm ?_
  refine WC_seq ?_
  refine WC_region ?_
  refine WL_val gd0 ((o_move (v := .slice a_a1 a_n2 a_c3) (by exact e0)) _) rfl ?_
  obtain ⟨s8, r9, h⟩ := h
  refine WL_val gd0 (o_toStr Try.underlying24 Try.underlying5 Try.underlying9 rfl r9) rfl ?_
  refine WL_val gd0 ((o_move (v := .slice b_a4 b_n5 b_c6) (by exact e1)) _) rfl ?_
  obtain ⟨s10, r11, h⟩ := h
  refine WL_val gd0 (o_toStr Try.underlying24 Try.underlying5 Try.underlying9 rfl r11) rfl ?_
  refine WL_val gd0 ((o_eqlStr rfl rfl) _) rfl ?_
  refine WL_val gd0 ((o_assign (v := .bool (s8.toList == s10.toList)) rfl) _) rfl ?_
  refine WL_nil ?_
  refine nrm ?_
  refine WC_ret ?_
  refine rtE ?_
  exact gv1 rfl rfl h

/-- (*spacecraft bits.Writer).ok -/
def F23 (w1 : Option Addr) (w2 : World) (k : Value → World → Prop) : Prop :=
  if (!(w1).isNone) = true then
  ∃ (p4 : Addr), w1 = some p4 ∧ ∃ (x6 : Bool), w2.cell? p4 = some (.bool x6) ∧ k (.bool x6) w2
else
  k (.bool false) w2
set_option maxRecDepth 100000 in
set_option maxHeartbeats 2000000 in
theorem w23 (w1 : Option Addr) (w2 : World) (k : Value → World → Prop) (h : F23 w1 w2 k) : Does Try.prog 23 #[.pointer w1] w2 k := by
  refine enter 11 Try.func23 rfl rfl rfl ?_
  intro ρ hρ
  have e0 := hρ 0 _ rfl
  unfold F23 at h
  refine WC_seq ?_
  refine WC_region ?_
  refine WL_val gd0 ((o_assign (v := .bool false) rfl) _) rfl ?_
  refine WL_nil ?_
  refine nrm ?_
  refine WC_seq ?_
  refine WC_region ?_
  refine WL_val gd0 ((o_move (v := .pointer w1) (by exact e0)) _) rfl ?_
  refine WL_val gd0 ((o_neqPtrNil Try.underlying33 rfl rfl) _) rfl ?_
  refine WL_val gd0 ((o_move (v := .bool (!(w1).isNone)) rfl) _) rfl ?_
  refine bsplit (!(w1).isNone) (fun hb3 => ?_) (fun hb3 => ?_)
  · rw [if_pos hb3] at h
    refine WL_val (gdY (b := (!(w1).isNone)) 5 rfl rfl hb3) ((o_move (v := .pointer w1) (by exact e0)) _) rfl ?_
    obtain ⟨p4, q5, h⟩ := h
    refine WL_val (gdY (b := (!(w1).isNone)) 5 rfl rfl hb3) ((o_nilCheck (by exact (congrArg Value.pointer q5))) _) rfl ?_
    refine WL_val (gdY (b := (!(w1).isNone)) 5 rfl rfl hb3) ((o_fieldAddr0 Try.underlying46 rfl Try.sizeOf4 rfl rfl rfl) _) rfl ?_
    obtain ⟨x6, hc7, h⟩ := h
    refine WL_val (gdY (b := (!(w1).isNone)) 5 rfl rfl hb3) (o_load Try.isAgg4 rfl hc7) rfl ?_
    refine WL_val gd0 ((o_pickT (v := .bool x6) rfl hb3 rfl) _) rfl ?_
    refine WL_val gd0 ((o_assign (v := .bool x6) rfl) _) rfl ?_
    refine WL_nil ?_
    refine nrm ?_
    refine WC_ret ?_
    refine rtE ?_
    exact gv1 rfl rfl h
  · rw [if_neg (neT hb3)] at h
    refine WL_skip (gdN (b := (!(w1).isNone)) 5 rfl rfl hb3) rfl ?_
    refine WL_skip (gdN (b := (!(w1).isNone)) 5 rfl rfl hb3) rfl ?_
    refine WL_skip (gdN (b := (!(w1).isNone)) 5 rfl rfl hb3) rfl ?_
    refine WL_skip (gdN (b := (!(w1).isNone)) 5 rfl rfl hb3) rfl ?_
    refine WL_val gd0 ((o_pickF (v := .bool false) rfl hb3 rfl) _) rfl ?_
    refine WL_val gd0 ((o_assign (v := .bool false) rfl) _) rfl ?_
    refine WL_nil ?_
    refine nrm ?_
    refine WC_ret ?_
    refine rtE ?_
    exact gv1 rfl rfl h

/-- (*spacecraft bits.Reader).ok -/
def F24 (r1 : Option Addr) (w2 : World) (k : Value → World → Prop) : Prop :=
  if (!(r1).isNone) = true then
  ∃ (p4 : Addr), r1 = some p4 ∧ ∃ (x6 : Bool), w2.cell? p4 = some (.bool x6) ∧ if x6 = true then
    ∃ (x9 : Bool), w2.cell? (p4.add 3) = some (.bool x9) ∧ k (.bool (!x9)) w2
  else
    k (.bool false) w2
else
  k (.bool false) w2
set_option maxRecDepth 100000 in
set_option maxHeartbeats 2000000 in
theorem w24 (r1 : Option Addr) (w2 : World) (k : Value → World → Prop) (h : F24 r1 w2 k) : Does Try.prog 24 #[.pointer r1] w2 k := by
  refine enter 18 Try.func24 rfl rfl rfl ?_
  intro ρ hρ
  have e0 := hρ 0 _ rfl
  unfold F24 at h
  refine WC_seq ?_
  refine WC_region ?_
  refine WL_val gd0 ((o_assign (v := .bool false) rfl) _) rfl ?_
  refine WL_nil ?_
  refine nrm ?_
  refine WC_seq ?_
  refine WC_region ?_
  refine WL_val gd0 ((o_move (v := .pointer r1) (by exact e0)) _) rfl ?_
  refine WL_val gd0 ((o_neqPtrNil Try.underlying40 rfl rfl) _) rfl ?_
  refine WL_val gd0 ((o_move (v := .bool (!(r1).isNone)) rfl) _) rfl ?_
  refine bsplit (!(r1).isNone) (fun hb3 => ?_) (fun hb3 => ?_)
  · rw [if_pos hb3] at h
    refine WL_val (gdY (b := (!(r1).isNone)) 5 rfl rfl hb3) ((o_move (v := .pointer r1) (by exact e0)) _) rfl ?_
    obtain ⟨p4, q5, h⟩ := h
    refine WL_val (gdY (b := (!(r1).isNone)) 5 rfl rfl hb3) ((o_nilCheck (by exact (congrArg Value.pointer q5))) _) rfl ?_
    refine WL_val (gdY (b := (!(r1).isNone)) 5 rfl rfl hb3) ((o_fieldAddr0 Try.underlying48 rfl Try.sizeOf4 rfl rfl rfl) _) rfl ?_
    obtain ⟨x6, hc7, h⟩ := h
    refine WL_val (gdY (b := (!(r1).isNone)) 5 rfl rfl hb3) (o_load Try.isAgg4 rfl hc7) rfl ?_
    refine WL_val gd0 ((o_pickT (v := .bool x6) rfl hb3 rfl) _) rfl ?_
    refine WL_val gd0 ((o_move (v := .bool x6) rfl) _) rfl ?_
    refine bsplit x6 (fun hb8 => ?_) (fun hb8 => ?_)
    · rw [if_pos hb8] at h
      refine WL_val (gdY (b := x6) 11 rfl rfl hb8) ((o_move (v := .pointer r1) (by exact e0)) _) rfl ?_
      refine WL_val (gdY (b := x6) 11 rfl rfl hb8) ((o_nilCheck (by exact (congrArg Value.pointer q5))) _) rfl ?_
      refine WL_val (gdY (b := x6) 11 rfl rfl hb8) ((o_fieldAddr 3 Try.underlying48 rfl Try.sizeOf4 rfl rfl rfl) _) rfl ?_
      obtain ⟨x9, hc10, h⟩ := h
      refine WL_val (gdY (b := x6) 11 rfl rfl hb8) (o_load Try.isAgg4 rfl hc10) rfl ?_
      refine WL_val (gdY (b := x6) 11 rfl rfl hb8) ((o_not rfl) _) rfl ?_
      refine WL_val gd0 ((o_pickT (v := .bool (!x9)) rfl hb8 rfl) _) rfl ?_
      refine WL_val gd0 ((o_assign (v := .bool (!x9)) rfl) _) rfl ?_
      refine WL_nil ?_
      refine nrm ?_
      refine WC_ret ?_
      refine rtE ?_
      exact gv1 rfl rfl h
    · rw [if_neg (neT hb8)] at h
      refine WL_skip (gdN (b := x6) 11 rfl rfl hb8) rfl ?_
      refine WL_skip (gdN (b := x6) 11 rfl rfl hb8) rfl ?_
      refine WL_skip (gdN (b := x6) 11 rfl rfl hb8) rfl ?_
      refine WL_skip (gdN (b := x6) 11 rfl rfl hb8) rfl ?_
      refine WL_skip (gdN (b := x6) 11 rfl rfl hb8) rfl ?_
      refine WL_val gd0 ((o_pickF (v := .bool false) rfl hb8 rfl) _) rfl ?_
      refine WL_val gd0 ((o_assign (v := .bool false) rfl) _) rfl ?_
      refine WL_nil ?_
      refine nrm ?_
      refine WC_ret ?_
      refine rtE ?_
      exact gv1 rfl rfl h
  · rw [if_neg (neT hb3)] at h
    refine WL_skip (gdN (b := (!(r1).isNone)) 5 rfl rfl hb3) rfl ?_
    refine WL_skip (gdN (b := (!(r1).isNone)) 5 rfl rfl hb3) rfl ?_
    refine WL_skip (gdN (b := (!(r1).isNone)) 5 rfl rfl hb3) rfl ?_
    refine WL_skip (gdN (b := (!(r1).isNone)) 5 rfl rfl hb3) rfl ?_
    refine WL_val gd0 ((o_pickF (v := .bool false) rfl hb3 rfl) _) rfl ?_
    refine WL_val gd0 ((o_move (v := .bool false) rfl) _) rfl ?_
    refine WL_skip (gdN (b := false) 11 rfl rfl rfl) rfl ?_
    refine WL_skip (gdN (b := false) 11 rfl rfl rfl) rfl ?_
    refine WL_skip (gdN (b := false) 11 rfl rfl rfl) rfl ?_
    refine WL_skip (gdN (b := false) 11 rfl rfl rfl) rfl ?_
    refine WL_skip (gdN (b := false) 11 rfl rfl rfl) rfl ?_
    refine WL_val gd0 ((o_pickF (v := .bool false) rfl rfl rfl) _) rfl ?_
    refine WL_val gd0 ((o_assign (v := .bool false) rfl) _) rfl ?_
    refine WL_nil ?_
    refine nrm ?_
    refine WC_ret ?_
    refine rtE ?_
    exact gv1 rfl rfl h

/-- (*spacecraft bits.Reader).Left -/
def F25 (r1 : Option Addr) (w2 : World) (k : Value → World → Prop) : Prop :=
  Does Try.prog 24 #[.pointer r1] w2 (fun v w3 => ∃ (x4 : Bool), v = .bool x4 ∧ if (!x4) = true then
  k (.int .i64 0) w3
else
  ∃ (p6 : Addr), r1 = some p6 ∧ ∃ (x_a8 : Option Addr) (x_n9 x_c10 : Nat), w3.drew.cell? (p6.add 1) = some (.slice x_a8 x_n9 x_c10) ∧ ∃ (x12 : Int), w3.drew.cell? (p6.add 2) = some (.int .i64 x12) ∧ k (.int .i64 (IntKind.i64.wrap ((IntKind.i64.wrap (8 * (x_n9 : Int))) - x12))) w3.drew)
set_option maxRecDepth 100000 in
set_option maxHeartbeats 2000000 in
theorem w25 (r1 : Option Addr) (w2 : World) (k : Value → World → Prop) (h : F25 r1 w2 k) : Does Try.prog 25 #[.pointer r1] w2 k := by
  refine enter 17 Try.func25 rfl rfl rfl ?_
  intro ρ hρ
  have e0 := hρ 0 _ rfl
  unfold F25 at h
  refine WC_seq ?_
  refine WC_region ?_
  refine WL_val gd0 ((o_assign (v := .int .i64 0) rfl) _) rfl ?_
  refine WL_nil ?_
  refine nrm ?_
  refine WC_seq ?_
  refine WC_seq ?_
  refine WC_region ?_
  refine WL_val gd0 ((o_move (v := .pointer r1) (by exact e0)) _) rfl ?_
  refine WL_call gd0 (o_call Try.call24 (argCons rfl argNil) _) rfl (h.mono ?_)
  rintro _ w3 ⟨x4, rfl, h⟩
  refine WL_val gd0 ((o_not rfl) _) rfl ?_
  refine WL_nil ?_
  refine nrm ?_
  refine WC_cond (t := (!x4)) rfl (fun hb5 => ?_) (fun hb5 => ?_)
  · rw [if_pos hb5] at h
    refine WC_seq ?_
    refine WC_region ?_
    refine WL_val gd0 ((o_assign (v := .int .i64 0) rfl) _) rfl ?_
    refine WL_nil ?_
    refine nrm ?_
    refine WC_ret ?_
    refine rtT ?_
    refine rtE ?_
    exact gv1 rfl rfl h
  · rw [if_neg (neT hb5)] at h
    refine WC_skip ?_
    refine nrm ?_
    refine WC_seq ?_
    refine WC_draws [] (.look 0 (.look 1 (.look 2 (.look 3 (.look 4 (.look 5 (.look 6 (.look 7 (.look 8 (.look 9 (.look 10 (.look 11 .nil)))))))))))) Try.mixed (by kernel_rfl) ?_
    refine WQ_val rfl gd0 (o_move (v := .pointer r1) (by exact e0)) rfl ?_
    obtain ⟨p6, q7, h⟩ := h
    refine WQ_val rfl gd0 (o_nilCheck (by exact (congrArg Value.pointer q7))) rfl ?_
    refine WQ_val rfl gd0 (o_fieldAddr 1 Try.underlying48 rfl Try.sizeOf24 rfl rfl rfl) rfl ?_
    obtain ⟨x_a8, x_n9, x_c10, hc11, h⟩ := h
    refine WQ_look (fun w => w.cell? (p6.add 1) = some (.slice x_a8 x_n9 x_c10)) rfl gd0 (fun w hc => (o_load Try.isAgg24 rfl hc)) hc11 rfl ?_
    refine WQ_val rfl gd0 (o_len Try.underlying24 rfl) rfl ?_
    refine WQ_val rfl gd0 (o_mul rfl rfl) rfl ?_
    refine WQ_val rfl gd0 (o_move (v := .pointer r1) (by exact e0)) rfl ?_
    refine WQ_val rfl gd0 (o_nilCheck (by exact (congrArg Value.pointer q7))) rfl ?_
    refine WQ_val rfl gd0 (o_fieldAddr 2 Try.underlying48 rfl Try.sizeOf3 rfl rfl rfl) rfl ?_
    obtain ⟨x12, hc13, h⟩ := h
    refine WQ_look (fun w => w.cell? (p6.add 2) = some (.int .i64 x12)) rfl gd0 (fun w hc => (o_load Try.isAgg3 rfl hc)) hc13 rfl ?_
    refine WQ_val rfl gd0 (o_sub rfl rfl) rfl ?_
    refine WQ_val rfl gd0 (o_assign (v := .int .i64 (IntKind.i64.wrap ((IntKind.i64.wrap (8 * (x_n9 : Int))) - x12))) rfl) rfl ?_
    refine WQ_nil ?_
    refine nrm ?_
    refine WC_ret ?_
    refine rtE ?_
    exact gv1 rfl rfl h


end Go.Proofs.Ytffibjlljeohdaa
