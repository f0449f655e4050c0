/-
  The forms of the functions, and their walks: written by a program of this claim (gen.py) off the elaborated translation.
-/
import Derived.Test.YtfnlhonngacagaaProg
import Derived.Test.YtfnlhonngacagaaBase
import Derived.KernelRfl
import Derived.Test.YtfnlhonngacagaaForms
namespace Go.Proofs.Ytfnlhonngacagaa
open Go Go.Sh Go.Proofs
set_option linter.unusedVariables false
def F3_b2 (l_n2 : Nat) (l_a1 : Option Addr) (m6 : Option Addr) (p16 : Addr) (i22 : Int) (w23 : World) (k : Value → World → Prop) (nx23 : Int → World → Prop) : Prop :=
  if i22 < (l_n2 : Int) then
  ∃ (p28 : Addr), l_a1 = some p28 ∧ (0 : Int) ≤ i22 ∧ i22 < (l_n2 : Int) ∧ ∃ (x30 : Bool) (x31 x32 : Int), Cells w23 (p28.add (i22.toNat * 3)) 0 [.bool x30, .int .i64 x31, .int .i64 x32] ∧ Does Try.prog 11 #[.pointer m6, .pointer (some p16), .agg #[.bool x30, .int .i64 x31, .int .i64 x32]] w23 (fun v w34 => ∃ (x35 : Bool), v = .bool x35 ∧ if (!x35) = true then
    k (.bool false) w34
  else
    ∃ (x37 x38 : Int) (x_a39 : Option Addr) (x_n40 x_c41 : Nat), Cells w34 p16 0 [.int .i64 x37, .int .i64 x38, .slice x_a39 x_n40 x_c41] ∧ Does Try.prog 12 #[.pointer m6, .agg #[.int .i64 x37, .int .i64 x38, .slice x_a39 x_n40 x_c41]] w34 (fun v w43 => ∃ (x44 : Bool), v = .bool x44 ∧ if (!x44) = true then
      k (.bool false) w43
    else
      nx23 (IntKind.i64.wrap (i22 + 1)) w43))
else
  Does Try.prog 10 #[] w23 (fun v w46 => ∃ (t47 : Bool), v = .bool t47 ∧ k (.bool t47) w46)
def F3_j1 (m6 : Option Addr) (l_n2 : Nat) (l_a1 : Option Addr) (t10 : Bool) (w11 : World) (k : Value → World → Prop) : Prop :=
  if t10 = true then
  if (!(m6).isNone) = true then
    Does Try.prog 10 #[] w11 (fun v w14 => ∃ (x15 : Bool), v = .bool x15 ∧ k (.bool x15) w14)
  else
    k (.bool false) w11
else
  New w11 28 [.int .i64 0, .int .i64 0, .slice none 0 0] (fun p16 w17 => LoopP (fun (s : Int) w' nx' => F3_b2 l_n2 l_a1 m6 p16 s w' k (fun x0 w => nx' x0 w)) 0 w17)
/-- spacecraft spacecraftlaw45.ModePlays -/
def F3 (l_a1 : Option Addr) (l_n2 : Nat) (l_c3 : Nat) (w4 : World) (k : Value → World → Prop) : Prop :=
  Does Try.prog 9 #[] w4 (fun v w5 => ∃ (m6 : Option Addr), v = .pointer m6 ∧ if 60 < (l_n2 : Int) then
  F3_j1 m6 l_n2 l_a1 true w5 k
else
  F3_j1 m6 l_n2 l_a1 ((m6).isNone) w5 k)
set_option maxRecDepth 100000 in
set_option maxHeartbeats 2000000 in
theorem w3 (l_a1 : Option Addr) (l_n2 : Nat) (l_c3 : Nat) (w4 : World) (k : Value → World → Prop) (h : F3 l_a1 l_n2 l_c3 w4 k) : Does Try.prog 3 #[.slice l_a1 l_n2 l_c3] w4 k := by
  refine enter 39 Try.func3 rfl rfl rfl ?_
  intro ρ hρ
  have e0 := hρ 0 _ rfl
  unfold F3 at h
  refine WC_seq ?_
  refine WC_region ?_
  refine WL_val gd0 ((o_assign (v := .bool false) rfl) _) rfl ?_
  refine WL_nil ?_
  refine nrm ?_
  refine WC_seq ?_
  refine WC_region ?_
  refine WL_call gd0 (o_call Try.call9 argNil _) rfl (h.mono ?_)
  rintro _ w5 ⟨m6, rfl, h⟩
  refine WL_val gd0 ((o_assign (v := .pointer m6) rfl) _) rfl ?_
  refine WL_nil ?_
  refine nrm ?_
  refine WC_seq ?_
  refine WC_cut (fun ρ w' => ∃ (t10 : Bool), ρ 13 = .bool t10 ∧ ρ 0 = .slice l_a1 l_n2 l_c3 ∧ ρ 3 = .pointer m6 ∧ F3_j1 m6 l_n2 l_a1 t10 w' k) ?_ ?_
  · refine WC_region ?_
    refine WL_val gd0 ((o_move (v := .slice l_a1 l_n2 l_c3) (by exact e0)) _) rfl ?_
    refine WL_val gd0 ((o_len Try.underlying22 rfl) _) rfl ?_
    refine WL_val gd0 ((o_gtr rfl rfl) _) rfl ?_
    refine WL_val gd0 ((o_move (v := .bool (decide (60 < (l_n2 : Int)))) rfl) _) rfl ?_
    refine bsplit (decide (60 < (l_n2 : Int))) (fun hb48 => ?_) (fun hb48 => ?_)
    · rw [if_pos (of_decide_eq_true hb48)] at h
      refine WL_skip (gdN (b := (decide (60 < (l_n2 : Int)))) 10 rfl rfl hb48) rfl ?_
      refine WL_skip (gdN (b := (decide (60 < (l_n2 : Int)))) 10 rfl rfl hb48) rfl ?_
      refine WL_val gd0 ((o_pickT (v := .bool true) rfl hb48 rfl) _) rfl ?_
      refine WL_nil ?_
      refine nrm ?_
      exact ⟨_, rfl, e0, rfl, h⟩
    · rw [if_neg (of_decide_eq_false hb48)] at h
      refine WL_val (gdY (b := (decide (60 < (l_n2 : Int)))) 10 rfl rfl hb48) ((o_move (v := .pointer m6) rfl) _) rfl ?_
      refine WL_val (gdY (b := (decide (60 < (l_n2 : Int)))) 10 rfl rfl hb48) ((o_eqlPtrNil Try.underlying23 rfl rfl) _) rfl ?_
      refine WL_val gd0 ((o_pickF (v := .bool ((m6).isNone)) rfl hb48 rfl) _) rfl ?_
      refine WL_nil ?_
      refine nrm ?_
      exact ⟨_, rfl, e0, rfl, h⟩
  · rintro ρ w11 ⟨t10, e13_9, e0_7, e3_8, h⟩
    unfold F3_j1 at h
    refine WC_cond (t := t10) (by exact e13_9) (fun hb12 => ?_) (fun hb12 => ?_)
    · rw [if_pos hb12] at h
      refine WC_seq ?_
      refine WC_region ?_
      refine WL_val gd0 ((o_move (v := .pointer m6) (by exact e3_8)) _) rfl ?_
      refine WL_val gd0 ((o_neqPtrNil Try.underlying23 rfl rfl) _) rfl ?_
      refine WL_val gd0 ((o_move (v := .bool (!(m6).isNone)) rfl) _) rfl ?_
      refine bsplit (!(m6).isNone) (fun hb13 => ?_) (fun hb13 => ?_)
      · rw [if_pos hb13] at h
        refine WL_call (gdY (b := (!(m6).isNone)) 16 rfl rfl hb13) (o_call Try.call10 argNil _) rfl (h.mono ?_)
        rintro _ w14 ⟨x15, rfl, h⟩
        refine WL_val gd0 ((o_pickT (v := .bool x15) rfl hb13 rfl) _) rfl ?_
        refine WL_val gd0 ((o_assign (v := .bool x15) rfl) _) rfl ?_
        refine WL_nil ?_
        refine nrm ?_
        refine WC_ret ?_
        refine rtT ?_
        refine rtE ?_
        exact gv1 rfl rfl h
      · rw [if_neg (neT hb13)] at h
        refine WL_skip (gdN (b := (!(m6).isNone)) 16 rfl rfl hb13) rfl ?_
        refine WL_val gd0 ((o_pickF (v := .bool false) rfl hb13 rfl) _) rfl ?_
        refine WL_val gd0 ((o_assign (v := .bool false) rfl) _) rfl ?_
        refine WL_nil ?_
        refine nrm ?_
        refine WC_ret ?_
        refine rtT ?_
        refine rtE ?_
        exact gv1 rfl rfl h
    · rw [if_neg (neT hb12)] at h
      refine WC_skip ?_
      refine nrm ?_
      refine WC_seq ?_
      refine WC_region ?_
      have h := New.out h
      refine WL_val gd0 (o_alloc (z := .agg #[.int .i64 0, .int .i64 0, .slice none 0 0]) (cs := [.int .i64 0, .int .i64 0, .slice none 0 0]) Try.zeroValue28 rfl) rfl ?_
      generalize hp16 : fresh w11 = p16 at h ⊢
      generalize hw17 : push w11 28 [.int .i64 0, .int .i64 0, .slice none 0 0] = w17 at h ⊢
      try dsimp only at h
      refine WL_nil ?_
      refine nrm ?_
      refine WC_seq ?_
      refine WC_seq ?_
      refine WC_region ?_
      refine WL_val gd0 ((o_assign (v := .int .i64 0) rfl) _) rfl ?_
      refine WL_nil ?_
      refine nrm ?_
      refine WC_block ?_
      obtain ⟨J23, ⟨n23, h0⟩, hr23⟩ := h
      refine WC_loop (fun n ρ w' => ∃ (i22 : Int), ρ 5 = .int .i64 i22 ∧ ρ 0 = .slice l_a1 l_n2 l_c3 ∧ ρ 3 = .pointer m6 ∧ ρ 4 = .pointer (some p16) ∧ J23 n i22 w') ⟨n23, _, rfl, e0_7, e3_8, rfl, h0⟩ ?_
      rintro n23 ρ w23 ⟨i22, e5_21, e0_18, e3_19, e4_20, h⟩
      have h : F3_b2 l_n2 l_a1 m6 p16 i22 w23 k (fun x0 w => ∃ m, m < n23 ∧ J23 m x0 w) := hr23 n23 i22 w23 h
      unfold F3_b2 at h
      refine WC_seq ?_
      refine WC_seq ?_
      refine WC_region ?_
      refine WL_val gd0 ((o_move (v := .int .i64 i22) (by exact e5_21)) _) rfl ?_
      refine WL_val gd0 ((o_move (v := .slice l_a1 l_n2 l_c3) (by exact e0_18)) _) rfl ?_
      refine WL_val gd0 ((o_len Try.underlying22 rfl) _) rfl ?_
      refine WL_val gd0 ((o_lss rfl rfl) _) rfl ?_
      refine WL_nil ?_
      refine nrm ?_
      refine WC_cond (t := (decide (i22 < (l_n2 : Int)))) rfl (fun hb25 => ?_) (fun hb25 => ?_)
      · rw [if_pos (of_decide_eq_true hb25)] at h
        refine WC_skip ?_
        refine nrm ?_
        refine WC_seq ?_
        refine WC_block ?_
        refine WC_seq ?_
        refine WC_region ?_
        refine WL_val gd0 ((o_move (v := .pointer m6) (by exact e3_19)) _) rfl ?_
        refine WL_val gd0 ((o_move (v := .slice l_a1 l_n2 l_c3) (by exact e0_18)) _) rfl ?_
        refine WL_val gd0 ((o_move (v := .int .i64 i22) (by exact e5_21)) _) rfl ?_
        obtain ⟨p28, q29, h⟩ := h
        obtain ⟨l26, u27, h⟩ := h
        refine WL_val gd0 ((o_indexAddr Try.underlying22 Try.sizeOf32 (by exact (congrArg (fun z => Value.slice z l_n2 l_c3) q29)) rfl l26 u27) _) rfl ?_
        obtain ⟨x30, x31, x32, hc33, h⟩ := h
        refine WL_val gd0 (o_loadAgg (vs := [.bool x30, .int .i64 x31, .int .i64 x32]) Try.isAgg32 Try.sizeOf32 rfl hc33) rfl ?_
        refine WL_call gd0 (o_call Try.call11 (argCons rfl (argCons (by exact e4_20) (argCons rfl argNil))) _) rfl (h.mono ?_)
        rintro _ w34 ⟨x35, rfl, h⟩
        refine WL_val gd0 ((o_not rfl) _) rfl ?_
        refine WL_val gd0 ((o_move (v := .bool (!x35)) rfl) _) rfl ?_
        refine bsplit (!x35) (fun hb36 => ?_) (fun hb36 => ?_)
        · rw [if_pos hb36] at h
          refine WL_skip (gdN (b := (!x35)) 32 rfl rfl hb36) rfl ?_
          refine WL_skip (gdN (b := (!x35)) 32 rfl rfl hb36) rfl ?_
          refine WL_skip (gdN (b := (!x35)) 32 rfl rfl hb36) rfl ?_
          refine WL_skip (gdN (b := (!x35)) 32 rfl rfl hb36) rfl ?_
          refine WL_val gd0 ((o_pickT (v := .bool true) rfl hb36 rfl) _) rfl ?_
          refine WL_nil ?_
          refine nrm ?_
          refine WC_cond (t := true) rfl (fun _ => ?_) (fun hx => by rw [(rfl : true = true)] at hx; cases hx)
          refine WC_seq ?_
          refine WC_region ?_
          refine WL_val gd0 ((o_assign (v := .bool false) rfl) _) rfl ?_
          refine WL_nil ?_
          refine nrm ?_
          refine WC_ret ?_
          refine rtB ?_
          refine rtT ?_
          refine rtT ?_
          refine rtB ?_
          refine rtT ?_
          refine rtE ?_
          exact gv1 rfl rfl h
        · rw [if_neg (neT hb36)] at h
          refine WL_val (gdY (b := (!x35)) 32 rfl rfl hb36) ((o_move (v := .pointer m6) (by exact e3_19)) _) rfl ?_
          obtain ⟨x37, x38, x_a39, x_n40, x_c41, hc42, h⟩ := h
          refine WL_val (gdY (b := (!x35)) 32 rfl rfl hb36) (o_loadAgg (vs := [.int .i64 x37, .int .i64 x38, .slice x_a39 x_n40 x_c41]) Try.isAgg28 Try.sizeOf28 (by exact e4_20) hc42) rfl ?_
          refine WL_call (gdY (b := (!x35)) 32 rfl rfl hb36) (o_call Try.call12 (argCons rfl (argCons rfl argNil)) _) rfl (h.mono ?_)
          rintro _ w43 ⟨x44, rfl, h⟩
          refine WL_val (gdY (b := (!x35)) 32 rfl rfl hb36) ((o_not rfl) _) rfl ?_
          refine WL_val gd0 ((o_pickF (v := .bool (!x44)) rfl hb36 rfl) _) rfl ?_
          refine WL_nil ?_
          refine nrm ?_
          refine WC_cond (t := (!x44)) rfl (fun hb45 => ?_) (fun hb45 => ?_)
          · rw [if_pos hb45] at h
            refine WC_seq ?_
            refine WC_region ?_
            refine WL_val gd0 ((o_assign (v := .bool false) rfl) _) rfl ?_
            refine WL_nil ?_
            refine nrm ?_
            refine WC_ret ?_
            refine rtB ?_
            refine rtT ?_
            refine rtT ?_
            refine rtB ?_
            refine rtT ?_
            refine rtE ?_
            exact gv1 rfl rfl h
          · rw [if_neg (neT hb45)] at h
            refine WC_skip ?_
            refine nrmB ?_
            refine nrm ?_
            refine WC_region ?_
            refine WL_val gd0 ((o_move (v := .int .i64 i22) (by exact e5_21)) _) rfl ?_
            refine WL_val gd0 ((o_add rfl rfl) _) rfl ?_
            refine WL_val gd0 ((o_assign (v := .int .i64 (IntKind.i64.wrap (i22 + 1))) rfl) _) rfl ?_
            refine WL_nil ?_
            refine nrm ?_
            obtain ⟨m24, hm24, h⟩ := h
            exact ⟨m24, hm24, _, rfl, e0_18, e3_19, e4_20, h⟩
      · rw [if_neg (of_decide_eq_false hb25)] at h
        refine WC_exit ?_
        refine exT ?_
        refine exT ?_
        refine exB ?_
        refine nrm ?_
        refine WC_seq ?_
        refine WC_region ?_
        refine WL_call gd0 (o_call Try.call10 argNil _) rfl (h.mono ?_)
        rintro _ w46 ⟨t47, rfl, h⟩
        refine WL_val gd0 ((o_assign (v := .bool t47) rfl) _) rfl ?_
        refine WL_nil ?_
        refine nrm ?_
        refine WC_ret ?_
        refine rtE ?_
        exact gv1 rfl rfl h

def F4_b1 (n1 : Int) (m4 : Option Addr) (p6 : Addr) (i12 : Int) (w13 : World) (k : Value → World → Prop) (nx13 : Int → World → Prop) : Prop :=
  if i12 < (Int.tmod (IntKind.i64.wrap n1) 400) then
  if i12 = 0 then
    Does Try.prog 11 #[.pointer m4, .pointer (some p6), .agg #[.bool true, .int .i64 (IntKind.i64.wrap (1 + (Int.tmod i12 3))), .int .i64 i12]] w13 (fun v w17 => ∃ (x18 : Bool), v = .bool x18 ∧ if (!x18) = true then
      k (.bool false) w17
    else
      nx13 (IntKind.i64.wrap (i12 + 1)) w17)
  else
    if (Int.tmod i12 2) = 0 then
      Does Try.prog 11 #[.pointer m4, .pointer (some p6), .agg #[.bool (decide ((Int.tmod i12 8) = 0)), .int .i64 (IntKind.i64.wrap (1 + (Int.tmod i12 3))), .int .i64 i12]] w13 (fun v w21 => ∃ (x22 : Bool), v = .bool x22 ∧ if (!x22) = true then
        k (.bool false) w21
      else
        nx13 (IntKind.i64.wrap (i12 + 1)) w21)
    else
      Does Try.prog 11 #[.pointer m4, .pointer (some p6), .agg #[.bool false, .int .i64 (IntKind.i64.wrap (1 + (Int.tmod i12 3))), .int .i64 i12]] w13 (fun v w24 => ∃ (x25 : Bool), v = .bool x25 ∧ if (!x25) = true then
        k (.bool false) w24
      else
        nx13 (IntKind.i64.wrap (i12 + 1)) w24)
else
  ∃ (x27 x28 : Int) (x_a29 : Option Addr) (x_n30 x_c31 : Nat), Cells w13 p6 0 [.int .i64 x27, .int .i64 x28, .slice x_a29 x_n30 x_c31] ∧ Does Try.prog 12 #[.pointer m4, .agg #[.int .i64 x27, .int .i64 x28, .slice x_a29 x_n30 x_c31]] w13 (fun v w33 => ∃ (x34 : Bool), v = .bool x34 ∧ if x34 = true then
    Does Try.prog 10 #[] w33 (fun v w36 => ∃ (x37 : Bool), v = .bool x37 ∧ k (.bool x37) w36)
  else
    k (.bool false) w33)
/-- spacecraft spacecraftlaw45.ModeMany -/
def F4 (n1 : Int) (w2 : World) (k : Value → World → Prop) : Prop :=
  Does Try.prog 9 #[] w2 (fun v w3 => ∃ (m4 : Option Addr), v = .pointer m4 ∧ if (m4).isNone = true then
  k (.bool false) w3
else
  New w3 28 [.int .i64 0, .int .i64 0, .slice none 0 0] (fun p6 w7 => LoopP (fun (s : Int) w' nx' => F4_b1 n1 m4 p6 s w' k (fun x0 w => nx' x0 w)) 0 w7))
set_option maxRecDepth 100000 in
set_option maxHeartbeats 2000000 in
theorem w4 (n1 : Int) (w2 : World) (k : Value → World → Prop) (h : F4 n1 w2 k) : Does Try.prog 4 #[.int .u16 n1] w2 k := by
  refine enter 42 Try.func4 rfl rfl rfl ?_
  intro ρ hρ
  have e0 := hρ 0 _ rfl
  unfold F4 at h
  refine WC_seq ?_
  refine WC_region ?_
  refine WL_val gd0 ((o_assign (v := .bool false) rfl) _) rfl ?_
  refine WL_nil ?_
  refine nrm ?_
  refine WC_seq ?_
  refine WC_region ?_
  refine WL_call gd0 (o_call Try.call9 argNil _) rfl (h.mono ?_)
  rintro _ w3 ⟨m4, rfl, h⟩
  refine WL_val gd0 ((o_assign (v := .pointer m4) rfl) _) rfl ?_
  refine WL_nil ?_
  refine nrm ?_
  refine WC_seq ?_
  refine WC_seq ?_
  refine WC_region ?_
  refine WL_val gd0 ((o_move (v := .pointer m4) rfl) _) rfl ?_
  refine WL_val gd0 ((o_eqlPtrNil Try.underlying23 rfl rfl) _) rfl ?_
  refine WL_nil ?_
  refine nrm ?_
  refine WC_cond (t := ((m4).isNone)) rfl (fun hb5 => ?_) (fun hb5 => ?_)
  · rw [if_pos hb5] at h
    refine WC_seq ?_
    refine WC_region ?_
    refine WL_val gd0 ((o_assign (v := .bool false) rfl) _) rfl ?_
    refine WL_nil ?_
    refine nrm ?_
    refine WC_ret ?_
    refine rtT ?_
    refine rtE ?_
    exact gv1 rfl rfl h
  · rw [if_neg (neT hb5)] at h
    refine WC_skip ?_
    refine nrm ?_
    refine WC_seq ?_
    refine WC_region ?_
    have h := New.out h
    refine WL_val gd0 (o_alloc (z := .agg #[.int .i64 0, .int .i64 0, .slice none 0 0]) (cs := [.int .i64 0, .int .i64 0, .slice none 0 0]) Try.zeroValue28 rfl) rfl ?_
    generalize hp6 : fresh w3 = p6 at h ⊢
    generalize hw7 : push w3 28 [.int .i64 0, .int .i64 0, .slice none 0 0] = w7 at h ⊢
    try dsimp only at h
    refine WL_nil ?_
    refine nrm ?_
    refine WC_seq ?_
    refine WC_seq ?_
    refine WC_region ?_
    refine WL_val gd0 ((o_assign (v := .int .i64 0) rfl) _) rfl ?_
    refine WL_nil ?_
    refine nrm ?_
    refine WC_block ?_
    obtain ⟨J13, ⟨n13, h0⟩, hr13⟩ := h
    refine WC_loop (fun n ρ w' => ∃ (i12 : Int), ρ 5 = .int .i64 i12 ∧ ρ 0 = .int .u16 n1 ∧ ρ 3 = .pointer m4 ∧ ρ 4 = .pointer (some p6) ∧ J13 n i12 w') ⟨n13, _, rfl, e0, rfl, rfl, h0⟩ ?_
    rintro n13 ρ w13 ⟨i12, e5_11, e0_8, e3_9, e4_10, h⟩
    have h : F4_b1 n1 m4 p6 i12 w13 k (fun x0 w => ∃ m, m < n13 ∧ J13 m x0 w) := hr13 n13 i12 w13 h
    unfold F4_b1 at h
    refine WC_seq ?_
    refine WC_seq ?_
    refine WC_region ?_
    refine WL_val gd0 ((o_move (v := .int .i64 i12) (by exact e5_11)) _) rfl ?_
    refine WL_val gd0 ((o_move (v := .int .u16 n1) (by exact e0_8)) _) rfl ?_
    refine WL_val gd0 ((o_conv Try.underlying35 Try.underlying3 rfl) _) rfl ?_
    refine WL_val gd0 ((fun w => o_rem rfl rfl w (by decide)) _) rfl ?_
    refine WL_val gd0 ((o_lss rfl rfl) _) rfl ?_
    refine WL_nil ?_
    refine nrm ?_
    refine WC_cond (t := (decide (i12 < (Int.tmod (IntKind.i64.wrap n1) 400)))) rfl (fun hb15 => ?_) (fun hb15 => ?_)
    · rw [if_pos (of_decide_eq_true hb15)] at h
      refine WC_skip ?_
      refine nrm ?_
      refine WC_seq ?_
      refine WC_block ?_
      refine WC_seq ?_
      refine WC_region ?_
      refine WL_val gd0 ((o_move (v := .pointer m4) (by exact e3_9)) _) rfl ?_
      refine WL_val gd0 ((o_move (v := .int .i64 i12) (by exact e5_11)) _) rfl ?_
      refine WL_val gd0 ((o_eql rfl rfl) _) rfl ?_
      refine WL_val gd0 ((o_move (v := .bool (decide (i12 = 0))) rfl) _) rfl ?_
      refine bsplit (decide (i12 = 0)) (fun hb16 => ?_) (fun hb16 => ?_)
      · rw [if_pos (of_decide_eq_true hb16)] at h
        refine WL_skip (gdN (b := (decide (i12 = 0))) 19 rfl rfl hb16) rfl ?_
        refine WL_skip (gdN (b := (decide (i12 = 0))) 19 rfl rfl hb16) rfl ?_
        refine WL_skip (gdN (b := (decide (i12 = 0))) 19 rfl rfl hb16) rfl ?_
        refine WL_skip (gdN (b := (decide (i12 = 0))) 19 rfl rfl hb16) rfl ?_
        refine WL_skip (gdU 23 rfl rfl) rfl ?_
        refine WL_skip (gdU 23 rfl rfl) rfl ?_
        refine WL_skip (gdU 23 rfl rfl) rfl ?_
        refine WL_skip (gdN (b := (decide (i12 = 0))) 19 rfl rfl hb16) rfl ?_
        refine WL_val gd0 ((o_pickT (v := .bool true) rfl hb16 rfl) _) rfl ?_
        refine WL_val gd0 ((o_move (v := .int .i64 i12) (by exact e5_11)) _) rfl ?_
        refine WL_val gd0 ((fun w => o_rem rfl rfl w (by decide)) _) rfl ?_
        refine WL_val gd0 ((o_add rfl rfl) _) rfl ?_
        refine WL_val gd0 ((o_move (v := .int .i64 i12) (by exact e5_11)) _) rfl ?_
        refine WL_val gd0 ((o_build (ps := [(0, .bool true), (1, .int .i64 (IntKind.i64.wrap (1 + (Int.tmod i12 3)))), (2, .int .i64 i12)]) (v := .agg #[.bool true, .int .i64 (IntKind.i64.wrap (1 + (Int.tmod i12 3))), .int .i64 i12]) (partCons rfl (partCons rfl (partCons rfl partNil))) (fun w => by kernel_rfl)) _) rfl ?_
        refine WL_call gd0 (o_call Try.call11 (argCons rfl (argCons (by exact e4_10) (argCons rfl argNil))) _) rfl (h.mono ?_)
        rintro _ w17 ⟨x18, rfl, h⟩
        refine WL_val gd0 ((o_not rfl) _) rfl ?_
        refine WL_nil ?_
        refine nrm ?_
        refine WC_cond (t := (!x18)) rfl (fun hb19 => ?_) (fun hb19 => ?_)
        · rw [if_pos hb19] at h
          refine WC_seq ?_
          refine WC_region ?_
          refine WL_val gd0 ((o_assign (v := .bool false) rfl) _) rfl ?_
          refine WL_nil ?_
          refine nrm ?_
          refine WC_ret ?_
          refine rtB ?_
          refine rtT ?_
          refine rtT ?_
          refine rtB ?_
          refine rtT ?_
          refine rtE ?_
          exact gv1 rfl rfl h
        · rw [if_neg (neT hb19)] at h
          refine WC_skip ?_
          refine nrmB ?_
          refine nrm ?_
          refine WC_region ?_
          refine WL_val gd0 ((o_move (v := .int .i64 i12) (by exact e5_11)) _) rfl ?_
          refine WL_val gd0 ((o_add rfl rfl) _) rfl ?_
          refine WL_val gd0 ((o_assign (v := .int .i64 (IntKind.i64.wrap (i12 + 1))) rfl) _) rfl ?_
          refine WL_nil ?_
          refine nrm ?_
          obtain ⟨m14, hm14, h⟩ := h
          exact ⟨m14, hm14, _, rfl, e0_8, e3_9, e4_10, h⟩
      · rw [if_neg (of_decide_eq_false hb16)] at h
        refine WL_val (gdY (b := (decide (i12 = 0))) 19 rfl rfl hb16) ((o_move (v := .int .i64 i12) (by exact e5_11)) _) rfl ?_
        refine WL_val (gdY (b := (decide (i12 = 0))) 19 rfl rfl hb16) ((fun w => o_rem rfl rfl w (by decide)) _) rfl ?_
        refine WL_val (gdY (b := (decide (i12 = 0))) 19 rfl rfl hb16) ((o_eql rfl rfl) _) rfl ?_
        refine WL_val (gdY (b := (decide (i12 = 0))) 19 rfl rfl hb16) ((o_move (v := .bool (decide ((Int.tmod i12 2) = 0))) rfl) _) rfl ?_
        refine bsplit (decide ((Int.tmod i12 2) = 0)) (fun hb20 => ?_) (fun hb20 => ?_)
        · rw [if_pos (of_decide_eq_true hb20)] at h
          refine WL_val (gdY (b := (decide ((Int.tmod i12 2) = 0))) 23 rfl rfl hb20) ((o_move (v := .int .i64 i12) (by exact e5_11)) _) rfl ?_
          refine WL_val (gdY (b := (decide ((Int.tmod i12 2) = 0))) 23 rfl rfl hb20) ((fun w => o_rem rfl rfl w (by decide)) _) rfl ?_
          refine WL_val (gdY (b := (decide ((Int.tmod i12 2) = 0))) 23 rfl rfl hb20) ((o_eql rfl rfl) _) rfl ?_
          refine WL_val (gdY (b := (decide (i12 = 0))) 19 rfl rfl hb16) ((o_pickT (v := .bool (decide ((Int.tmod i12 8) = 0))) rfl hb20 rfl) _) rfl ?_
          refine WL_val gd0 ((o_pickF (v := .bool (decide ((Int.tmod i12 8) = 0))) rfl hb16 rfl) _) rfl ?_
          refine WL_val gd0 ((o_move (v := .int .i64 i12) (by exact e5_11)) _) rfl ?_
          refine WL_val gd0 ((fun w => o_rem rfl rfl w (by decide)) _) rfl ?_
          refine WL_val gd0 ((o_add rfl rfl) _) rfl ?_
          refine WL_val gd0 ((o_move (v := .int .i64 i12) (by exact e5_11)) _) rfl ?_
          refine WL_val gd0 ((o_build (ps := [(0, .bool (decide ((Int.tmod i12 8) = 0))), (1, .int .i64 (IntKind.i64.wrap (1 + (Int.tmod i12 3)))), (2, .int .i64 i12)]) (v := .agg #[.bool (decide ((Int.tmod i12 8) = 0)), .int .i64 (IntKind.i64.wrap (1 + (Int.tmod i12 3))), .int .i64 i12]) (partCons rfl (partCons rfl (partCons rfl partNil))) (fun w => by kernel_rfl)) _) rfl ?_
          refine WL_call gd0 (o_call Try.call11 (argCons rfl (argCons (by exact e4_10) (argCons rfl argNil))) _) rfl (h.mono ?_)
          rintro _ w21 ⟨x22, rfl, h⟩
          refine WL_val gd0 ((o_not rfl) _) rfl ?_
          refine WL_nil ?_
          refine nrm ?_
          refine WC_cond (t := (!x22)) rfl (fun hb23 => ?_) (fun hb23 => ?_)
          · rw [if_pos hb23] at h
            refine WC_seq ?_
            refine WC_region ?_
            refine WL_val gd0 ((o_assign (v := .bool false) rfl) _) rfl ?_
            refine WL_nil ?_
            refine nrm ?_
            refine WC_ret ?_
            refine rtB ?_
            refine rtT ?_
            refine rtT ?_
            refine rtB ?_
            refine rtT ?_
            refine rtE ?_
            exact gv1 rfl rfl h
          · rw [if_neg (neT hb23)] at h
            refine WC_skip ?_
            refine nrmB ?_
            refine nrm ?_
            refine WC_region ?_
            refine WL_val gd0 ((o_move (v := .int .i64 i12) (by exact e5_11)) _) rfl ?_
            refine WL_val gd0 ((o_add rfl rfl) _) rfl ?_
            refine WL_val gd0 ((o_assign (v := .int .i64 (IntKind.i64.wrap (i12 + 1))) rfl) _) rfl ?_
            refine WL_nil ?_
            refine nrm ?_
            obtain ⟨m14, hm14, h⟩ := h
            exact ⟨m14, hm14, _, rfl, e0_8, e3_9, e4_10, h⟩
        · rw [if_neg (of_decide_eq_false hb20)] at h
          refine WL_skip (gdN (b := (decide ((Int.tmod i12 2) = 0))) 23 rfl rfl hb20) rfl ?_
          refine WL_skip (gdN (b := (decide ((Int.tmod i12 2) = 0))) 23 rfl rfl hb20) rfl ?_
          refine WL_skip (gdN (b := (decide ((Int.tmod i12 2) = 0))) 23 rfl rfl hb20) rfl ?_
          refine WL_val (gdY (b := (decide (i12 = 0))) 19 rfl rfl hb16) ((o_pickF (v := .bool false) rfl hb20 rfl) _) rfl ?_
          refine WL_val gd0 ((o_pickF (v := .bool false) rfl hb16 rfl) _) rfl ?_
          refine WL_val gd0 ((o_move (v := .int .i64 i12) (by exact e5_11)) _) rfl ?_
          refine WL_val gd0 ((fun w => o_rem rfl rfl w (by decide)) _) rfl ?_
          refine WL_val gd0 ((o_add rfl rfl) _) rfl ?_
          refine WL_val gd0 ((o_move (v := .int .i64 i12) (by exact e5_11)) _) rfl ?_
          refine WL_val gd0 ((o_build (ps := [(0, .bool false), (1, .int .i64 (IntKind.i64.wrap (1 + (Int.tmod i12 3)))), (2, .int .i64 i12)]) (v := .agg #[.bool false, .int .i64 (IntKind.i64.wrap (1 + (Int.tmod i12 3))), .int .i64 i12]) (partCons rfl (partCons rfl (partCons rfl partNil))) (fun w => by kernel_rfl)) _) rfl ?_
          refine WL_call gd0 (o_call Try.call11 (argCons rfl (argCons (by exact e4_10) (argCons rfl argNil))) _) rfl (h.mono ?_)
          rintro _ w24 ⟨x25, rfl, h⟩
          refine WL_val gd0 ((o_not rfl) _) rfl ?_
          refine WL_nil ?_
          refine nrm ?_
          refine WC_cond (t := (!x25)) rfl (fun hb26 => ?_) (fun hb26 => ?_)
          · rw [if_pos hb26] at h
            refine WC_seq ?_
            refine WC_region ?_
            refine WL_val gd0 ((o_assign (v := .bool false) rfl) _) rfl ?_
            refine WL_nil ?_
            refine nrm ?_
            refine WC_ret ?_
            refine rtB ?_
            refine rtT ?_
            refine rtT ?_
            refine rtB ?_
            refine rtT ?_
            refine rtE ?_
            exact gv1 rfl rfl h
          · rw [if_neg (neT hb26)] at h
            refine WC_skip ?_
            refine nrmB ?_
            refine nrm ?_
            refine WC_region ?_
            refine WL_val gd0 ((o_move (v := .int .i64 i12) (by exact e5_11)) _) rfl ?_
            refine WL_val gd0 ((o_add rfl rfl) _) rfl ?_
            refine WL_val gd0 ((o_assign (v := .int .i64 (IntKind.i64.wrap (i12 + 1))) rfl) _) rfl ?_
            refine WL_nil ?_
            refine nrm ?_
            obtain ⟨m14, hm14, h⟩ := h
            exact ⟨m14, hm14, _, rfl, e0_8, e3_9, e4_10, h⟩
    · rw [if_neg (of_decide_eq_false hb15)] at h
      refine WC_exit ?_
      refine exT ?_
      refine exT ?_
      refine exB ?_
      refine nrm ?_
      refine WC_seq ?_
      refine WC_region ?_
      refine WL_val gd0 ((o_move (v := .pointer m4) (by exact e3_9)) _) rfl ?_
      obtain ⟨x27, x28, x_a29, x_n30, x_c31, hc32, h⟩ := h
      refine WL_val gd0 (o_loadAgg (vs := [.int .i64 x27, .int .i64 x28, .slice x_a29 x_n30 x_c31]) Try.isAgg28 Try.sizeOf28 (by exact e4_10) hc32) rfl ?_
      refine WL_call gd0 (o_call Try.call12 (argCons rfl (argCons rfl argNil)) _) rfl (h.mono ?_)
      rintro _ w33 ⟨x34, rfl, h⟩
      refine WL_val gd0 ((o_move (v := .bool x34) rfl) _) rfl ?_
      refine bsplit x34 (fun hb35 => ?_) (fun hb35 => ?_)
      · rw [if_pos hb35] at h
        refine WL_call (gdY (b := x34) 39 rfl rfl hb35) (o_call Try.call10 argNil _) rfl (h.mono ?_)
        rintro _ w36 ⟨x37, rfl, h⟩
        refine WL_val gd0 ((o_pickT (v := .bool x37) rfl hb35 rfl) _) rfl ?_
        refine WL_val gd0 ((o_assign (v := .bool x37) rfl) _) rfl ?_
        refine WL_nil ?_
        refine nrm ?_
        refine WC_ret ?_
        refine rtE ?_
        exact gv1 rfl rfl h
      · rw [if_neg (neT hb35)] at h
        refine WL_skip (gdN (b := x34) 39 rfl rfl hb35) rfl ?_
        refine WL_val gd0 ((o_pickF (v := .bool false) rfl hb35 rfl) _) rfl ?_
        refine WL_val gd0 ((o_assign (v := .bool false) rfl) _) rfl ?_
        refine WL_nil ?_
        refine nrm ?_
        refine WC_ret ?_
        refine rtE ?_
        exact gv1 rfl rfl h

/-- spacecraft spacecraftlaw45.ModeCan -/
def F5 (from1 : Int) (to2 : Int) (w3 : World) (k : Value → World → Prop) : Prop :=
  Does Try.prog 13 #[.int .i64 from1, .int .i64 to2] w3 (fun v w4 => ∃ (x5 : Bool), v = .bool x5 ∧ Does Try.prog 14 #[.int .i64 from1, .int .i64 to2] w4 (fun v w6 => ∃ (x7 : Bool), v = .bool x7 ∧ if (x5 == x7) = true then
  Does Try.prog 10 #[] w6 (fun v w9 => ∃ (x10 : Bool), v = .bool x10 ∧ k (.bool x10) w9)
else
  k (.bool false) w6))
set_option maxRecDepth 100000 in
set_option maxHeartbeats 2000000 in
theorem w5 (from1 : Int) (to2 : Int) (w3 : World) (k : Value → World → Prop) (h : F5 from1 to2 w3 k) : Does Try.prog 5 #[.int .i64 from1, .int .i64 to2] w3 k := by
  refine enter 15 Try.func5 rfl rfl rfl ?_
  intro ρ hρ
  have e0 := hρ 0 _ rfl
  have e1 := hρ 1 _ rfl
  unfold F5 at h
  refine WC_seq ?_
  refine WC_region ?_
  refine WL_val gd0 ((o_assign (v := .bool false) rfl) _) rfl ?_
  refine WL_nil ?_
  refine nrm ?_
  refine WC_seq ?_
  refine WC_region ?_
  refine WL_val gd0 ((o_move (v := .int .i64 from1) (by exact e0)) _) rfl ?_
  refine WL_val gd0 ((o_move (v := .int .i64 to2) (by exact e1)) _) rfl ?_
  refine WL_call gd0 (o_call Try.call13 (argCons rfl (argCons rfl argNil)) _) rfl (h.mono ?_)
  rintro _ w4 ⟨x5, rfl, h⟩
  refine WL_val gd0 ((o_move (v := .int .i64 from1) (by exact e0)) _) rfl ?_
  refine WL_val gd0 ((o_move (v := .int .i64 to2) (by exact e1)) _) rfl ?_
  refine WL_call gd0 (o_call Try.call14 (argCons rfl (argCons rfl argNil)) _) rfl (h.mono ?_)
  rintro _ w6 ⟨x7, rfl, h⟩
  refine WL_val gd0 ((o_eqlBool Try.underlying4 rfl rfl) _) rfl ?_
  refine WL_val gd0 ((o_move (v := .bool (x5 == x7)) rfl) _) rfl ?_
  refine bsplit (x5 == x7) (fun hb8 => ?_) (fun hb8 => ?_)
  · rw [if_pos hb8] at h
    refine WL_call (gdY (b := (x5 == x7)) 12 rfl rfl hb8) (o_call Try.call10 argNil _) rfl (h.mono ?_)
    rintro _ w9 ⟨x10, rfl, h⟩
    refine WL_val gd0 ((o_pickT (v := .bool x10) rfl hb8 rfl) _) rfl ?_
    refine WL_val gd0 ((o_assign (v := .bool x10) rfl) _) rfl ?_
    refine WL_nil ?_
    refine nrm ?_
    refine WC_ret ?_
    refine rtE ?_
    exact gv1 rfl rfl h
  · rw [if_neg (neT hb8)] at h
    refine WL_skip (gdN (b := (x5 == x7)) 12 rfl rfl hb8) rfl ?_
    refine WL_val gd0 ((o_pickF (v := .bool false) rfl hb8 rfl) _) rfl ?_
    refine WL_val gd0 ((o_assign (v := .bool false) rfl) _) rfl ?_
    refine WL_nil ?_
    refine nrm ?_
    refine WC_ret ?_
    refine rtE ?_
    exact gv1 rfl rfl h

def F6_b3 (to4 : Int) (m7 : Option Addr) (k58 : Int) (w59 : World) (k : Value → World → Prop) (nx59 : Int → World → Prop) : Prop :=
  if k58 ≤ (IntKind.i64.wrap (1 + (IntKind.i64.wrap (Int.tmod to4 4)))) then
  Does Try.prog 16 #[.pointer m7, .int .i64 k58, .int .i64 0] w59 (fun v w62 => ∃ (x63 : Int), v = .int .i64 x63 ∧ if x63 ≠ 0 then
    k (.bool false) w62
  else
    nx59 (IntKind.i64.wrap (k58 + 1)) w62)
else
  Does Try.prog 17 #[.pointer m7] w59 (fun v w65 => ∃ (x66 : Int), v = .int .i64 x66 ∧ if x66 = (IntKind.i64.wrap (1 + (IntKind.i64.wrap (Int.tmod to4 4)))) then
    Does Try.prog 16 #[.pointer m7, .int .i64 0, .int .i64 0] w65 (fun v w68 => ∃ (x69 : Int), v = .int .i64 x69 ∧ if x69 = 11 then
      Does Try.prog 10 #[] w68 (fun v w71 => ∃ (x72 : Bool), v = .bool x72 ∧ k (.bool x72) w71)
    else
      k (.bool false) w68)
  else
    k (.bool false) w65)
def F6_b2 (l_n2 : Nat) (l_a1 : Option Addr) (m7 : Option Addr) (to4 : Int) (i22 : Int) (w23 : World) (nx23 : Int → World → Prop) (k : Value → World → Prop) : Prop :=
  if i22 < (l_n2 : Int) then
  ∃ (p28 : Addr), l_a1 = some p28 ∧ (0 : Int) ≤ i22 ∧ i22 < (l_n2 : Int) ∧ ∃ (x30 : Bool), w23.cell? (p28.add (i22.toNat * 3)) = some (.bool x30) ∧ if x30 = true then
    (0 : Int) ≤ i22 ∧ i22 < (l_n2 : Int) ∧ ∃ (x35 : Int), w23.cell? ((p28.add (i22.toNat * 3)).add 2) = some (.int .i64 x35) ∧ Does Try.prog 15 #[.pointer m7, .int .i64 x35] w23 (fun v w37 => ∃ (x38 : Int), v = .int .i64 x38 ∧ nx23 (IntKind.i64.wrap (i22 + 1)) w37)
  else
    (0 : Int) ≤ i22 ∧ i22 < (l_n2 : Int) ∧ ∃ (x41 : Int), w23.drew.cell? ((p28.add (i22.toNat * 3)).add 1) = some (.int .i64 x41) ∧ (0 : Int) ≤ i22 ∧ i22 < (l_n2 : Int) ∧ ∃ (x45 : Int), w23.drew.cell? ((p28.add (i22.toNat * 3)).add 2) = some (.int .i64 x45) ∧ Does Try.prog 16 #[.pointer m7, .int .i64 x41, .int .i64 x45] w23.drew (fun v w47 => ∃ (x48 : Int), v = .int .i64 x48 ∧ nx23 (IntKind.i64.wrap (i22 + 1)) w47)
else
  Does Try.prog 15 #[.pointer m7, .int .i64 0] w23 (fun v w49 => ∃ (x50 : Int), v = .int .i64 x50 ∧ if x50 ≠ 0 then
    k (.bool false) w49
  else
    Does Try.prog 17 #[.pointer m7] w49 (fun v w52 => ∃ (x53 : Int), v = .int .i64 x53 ∧ if x53 ≠ 1 then
      k (.bool false) w52
    else
      LoopP (fun (s : Int) w' nx' => F6_b3 to4 m7 s w' k (fun x0 w => nx' x0 w)) 2 w52))
def F6_j1 (m7 : Option Addr) (l_n2 : Nat) (l_a1 : Option Addr) (to4 : Int) (t12 : Bool) (w13 : World) (k : Value → World → Prop) : Prop :=
  if t12 = true then
  if (!(m7).isNone) = true then
    Does Try.prog 10 #[] w13 (fun v w16 => ∃ (x17 : Bool), v = .bool x17 ∧ k (.bool x17) w16)
  else
    k (.bool false) w13
else
  LoopP (fun (s : Int) w' nx' => F6_b2 l_n2 l_a1 m7 to4 s w' (fun x0 w => nx' x0 w) k) 0 w13
/-- spacecraft spacecraftlaw45.ModePermits -/
def F6 (l_a1 : Option Addr) (l_n2 : Nat) (l_c3 : Nat) (to4 : Int) (w5 : World) (k : Value → World → Prop) : Prop :=
  Does Try.prog 9 #[] w5 (fun v w6 => ∃ (m7 : Option Addr), v = .pointer m7 ∧ if 60 < (l_n2 : Int) then
  F6_j1 m7 l_n2 l_a1 to4 true w6 k
else
  F6_j1 m7 l_n2 l_a1 to4 ((m7).isNone) w6 k)
set_option maxRecDepth 100000 in
set_option maxHeartbeats 2000000 in
theorem w6 (l_a1 : Option Addr) (l_n2 : Nat) (l_c3 : Nat) (to4 : Int) (w5 : World) (k : Value → World → Prop) (h : F6 l_a1 l_n2 l_c3 to4 w5 k) : Does Try.prog 6 #[.slice l_a1 l_n2 l_c3, .int .u8 to4] w5 k := by
  refine enter 85 Try.func6 rfl rfl rfl ?_
  intro ρ hρ
  have e0 := hρ 0 _ rfl
  have e1 := hρ 1 _ rfl
  unfold F6 at h
  refine WC_seq ?_
  refine WC_region ?_
  refine WL_val gd0 ((o_assign (v := .bool false) rfl) _) rfl ?_
  refine WL_nil ?_
  refine nrm ?_
  refine WC_seq ?_
  refine WC_region ?_
  refine WL_call gd0 (o_call Try.call9 argNil _) rfl (h.mono ?_)
  rintro _ w6 ⟨m7, rfl, h⟩
  refine WL_val gd0 ((o_assign (v := .pointer m7) rfl) _) rfl ?_
  refine WL_nil ?_
  refine nrm ?_
  refine WC_seq ?_
  refine WC_cut (fun ρ w' => ∃ (t12 : Bool), ρ 16 = .bool t12 ∧ ρ 0 = .slice l_a1 l_n2 l_c3 ∧ ρ 1 = .int .u8 to4 ∧ ρ 5 = .pointer m7 ∧ F6_j1 m7 l_n2 l_a1 to4 t12 w' k) ?_ ?_
  · refine WC_region ?_
    refine WL_val gd0 ((o_move (v := .slice l_a1 l_n2 l_c3) (by exact e0)) _) rfl ?_
    refine WL_val gd0 ((o_len Try.underlying22 rfl) _) rfl ?_
    refine WL_val gd0 ((o_gtr rfl rfl) _) rfl ?_
    refine WL_val gd0 ((o_move (v := .bool (decide (60 < (l_n2 : Int)))) rfl) _) rfl ?_
    refine bsplit (decide (60 < (l_n2 : Int))) (fun hb73 => ?_) (fun hb73 => ?_)
    · rw [if_pos (of_decide_eq_true hb73)] at h
      refine WL_skip (gdN (b := (decide (60 < (l_n2 : Int)))) 13 rfl rfl hb73) rfl ?_
      refine WL_skip (gdN (b := (decide (60 < (l_n2 : Int)))) 13 rfl rfl hb73) rfl ?_
      refine WL_val gd0 ((o_pickT (v := .bool true) rfl hb73 rfl) _) rfl ?_
      refine WL_nil ?_
      refine nrm ?_
      exact ⟨_, rfl, e0, e1, rfl, h⟩
    · rw [if_neg (of_decide_eq_false hb73)] at h
      refine WL_val (gdY (b := (decide (60 < (l_n2 : Int)))) 13 rfl rfl hb73) ((o_move (v := .pointer m7) rfl) _) rfl ?_
      refine WL_val (gdY (b := (decide (60 < (l_n2 : Int)))) 13 rfl rfl hb73) ((o_eqlPtrNil Try.underlying23 rfl rfl) _) rfl ?_
      refine WL_val gd0 ((o_pickF (v := .bool ((m7).isNone)) rfl hb73 rfl) _) rfl ?_
      refine WL_nil ?_
      refine nrm ?_
      exact ⟨_, rfl, e0, e1, rfl, h⟩
  · rintro ρ w13 ⟨t12, e16_11, e0_8, e1_9, e5_10, h⟩
    unfold F6_j1 at h
    refine WC_cond (t := t12) (by exact e16_11) (fun hb14 => ?_) (fun hb14 => ?_)
    · rw [if_pos hb14] at h
      refine WC_seq ?_
      refine WC_region ?_
      refine WL_val gd0 ((o_move (v := .pointer m7) (by exact e5_10)) _) rfl ?_
      refine WL_val gd0 ((o_neqPtrNil Try.underlying23 rfl rfl) _) rfl ?_
      refine WL_val gd0 ((o_move (v := .bool (!(m7).isNone)) rfl) _) rfl ?_
      refine bsplit (!(m7).isNone) (fun hb15 => ?_) (fun hb15 => ?_)
      · rw [if_pos hb15] at h
        refine WL_call (gdY (b := (!(m7).isNone)) 19 rfl rfl hb15) (o_call Try.call10 argNil _) rfl (h.mono ?_)
        rintro _ w16 ⟨x17, rfl, h⟩
        refine WL_val gd0 ((o_pickT (v := .bool x17) rfl hb15 rfl) _) rfl ?_
        refine WL_val gd0 ((o_assign (v := .bool x17) rfl) _) rfl ?_
        refine WL_nil ?_
        refine nrm ?_
        refine WC_ret ?_
        refine rtT ?_
        refine rtE ?_
        exact gv1 rfl rfl h
      · rw [if_neg (neT hb15)] at h
        refine WL_skip (gdN (b := (!(m7).isNone)) 19 rfl rfl hb15) rfl ?_
        refine WL_val gd0 ((o_pickF (v := .bool false) rfl hb15 rfl) _) rfl ?_
        refine WL_val gd0 ((o_assign (v := .bool false) rfl) _) rfl ?_
        refine WL_nil ?_
        refine nrm ?_
        refine WC_ret ?_
        refine rtT ?_
        refine rtE ?_
        exact gv1 rfl rfl h
    · rw [if_neg (neT hb14)] at h
      refine WC_skip ?_
      refine nrm ?_
      refine WC_seq ?_
      refine WC_seq ?_
      refine WC_region ?_
      refine WL_val gd0 ((o_assign (v := .int .i64 0) rfl) _) rfl ?_
      refine WL_nil ?_
      refine nrm ?_
      refine WC_block ?_
      obtain ⟨J23, ⟨n23, h0⟩, hr23⟩ := h
      refine WC_loop (fun n ρ w' => ∃ (i22 : Int), ρ 6 = .int .i64 i22 ∧ ρ 0 = .slice l_a1 l_n2 l_c3 ∧ ρ 1 = .int .u8 to4 ∧ ρ 5 = .pointer m7 ∧ J23 n i22 w') ⟨n23, _, rfl, e0_8, e1_9, e5_10, h0⟩ ?_
      rintro n23 ρ w23 ⟨i22, e6_21, e0_18, e1_19, e5_20, h⟩
      have h : F6_b2 l_n2 l_a1 m7 to4 i22 w23 (fun x0 w => ∃ m, m < n23 ∧ J23 m x0 w) k := hr23 n23 i22 w23 h
      unfold F6_b2 at h
      refine WC_seq ?_
      refine WC_seq ?_
      refine WC_region ?_
      refine WL_val gd0 ((o_move (v := .int .i64 i22) (by exact e6_21)) _) rfl ?_
      refine WL_val gd0 ((o_move (v := .slice l_a1 l_n2 l_c3) (by exact e0_18)) _) rfl ?_
      refine WL_val gd0 ((o_len Try.underlying22 rfl) _) rfl ?_
      refine WL_val gd0 ((o_lss rfl rfl) _) rfl ?_
      refine WL_nil ?_
      refine nrm ?_
      refine WC_cond (t := (decide (i22 < (l_n2 : Int)))) rfl (fun hb25 => ?_) (fun hb25 => ?_)
      · rw [if_pos (of_decide_eq_true hb25)] at h
        refine WC_skip ?_
        refine nrm ?_
        refine WC_seq ?_
        refine WC_block ?_
        refine WC_seq ?_
        refine WC_region ?_
        refine WL_val gd0 ((o_move (v := .slice l_a1 l_n2 l_c3) (by exact e0_18)) _) rfl ?_
        refine WL_val gd0 ((o_move (v := .int .i64 i22) (by exact e6_21)) _) rfl ?_
        obtain ⟨p28, q29, h⟩ := h
        obtain ⟨l26, u27, h⟩ := h
        refine WL_val gd0 ((o_indexAddr Try.underlying22 Try.sizeOf32 (by exact (congrArg (fun z => Value.slice z l_n2 l_c3) q29)) rfl l26 u27) _) rfl ?_
        refine WL_val gd0 ((o_fieldAddr0 Try.underlying32 rfl Try.sizeOf4 rfl rfl rfl) _) rfl ?_
        obtain ⟨x30, hc31, h⟩ := h
        refine WL_val gd0 (o_load Try.isAgg4 rfl hc31) rfl ?_
        refine WL_nil ?_
        refine nrm ?_
        refine WC_cond (t := x30) rfl (fun hb32 => ?_) (fun hb32 => ?_)
        · rw [if_pos hb32] at h
          refine WC_region ?_
          refine WL_val gd0 ((o_move (v := .pointer m7) (by exact e5_20)) _) rfl ?_
          refine WL_val gd0 ((o_move (v := .slice l_a1 l_n2 l_c3) (by exact e0_18)) _) rfl ?_
          refine WL_val gd0 ((o_move (v := .int .i64 i22) (by exact e6_21)) _) rfl ?_
          obtain ⟨l33, u34, h⟩ := h
          refine WL_val gd0 ((o_indexAddr Try.underlying22 Try.sizeOf32 (by exact (congrArg (fun z => Value.slice z l_n2 l_c3) q29)) rfl l33 u34) _) rfl ?_
          refine WL_val gd0 ((o_fieldAddr 2 Try.underlying32 rfl Try.sizeOf3 rfl rfl rfl) _) rfl ?_
          obtain ⟨x35, hc36, h⟩ := h
          refine WL_val gd0 (o_load Try.isAgg3 rfl hc36) rfl ?_
          refine WL_call gd0 (o_call Try.call15 (argCons rfl (argCons rfl argNil)) _) rfl (h.mono ?_)
          rintro _ w37 ⟨x38, rfl, h⟩
          refine WL_nil ?_
          refine nrmB ?_
          refine nrm ?_
          refine WC_region ?_
          refine WL_val gd0 ((o_move (v := .int .i64 i22) (by exact e6_21)) _) rfl ?_
          refine WL_val gd0 ((o_add rfl rfl) _) rfl ?_
          refine WL_val gd0 ((o_assign (v := .int .i64 (IntKind.i64.wrap (i22 + 1))) rfl) _) rfl ?_
          refine WL_nil ?_
          refine nrm ?_
          obtain ⟨m24, hm24, h⟩ := h
          exact ⟨m24, hm24, _, rfl, e0_18, e1_19, e5_20, h⟩
        · rw [if_neg (neT hb32)] at h
          refine WC_draws [11] (.look 0 (.look 1 (.look 2 (.look 3 (.look 4 (.look 5 (.look 6 (.look 7 (.look 8 (.look 9 (.look 10 (.act 11 .nil)))))))))))) Try.mixed (by kernel_rfl) ?_
          refine WQ_val rfl gd0 (o_move (v := .pointer m7) (by exact e5_20)) rfl ?_
          refine WQ_val rfl gd0 (o_move (v := .slice l_a1 l_n2 l_c3) (by exact e0_18)) rfl ?_
          refine WQ_val rfl gd0 (o_move (v := .int .i64 i22) (by exact e6_21)) rfl ?_
          obtain ⟨l39, u40, h⟩ := h
          refine WQ_val rfl gd0 (o_indexAddr Try.underlying22 Try.sizeOf32 (by exact (congrArg (fun z => Value.slice z l_n2 l_c3) q29)) rfl l39 u40) rfl ?_
          refine WQ_val rfl gd0 (o_fieldAddr 1 Try.underlying32 rfl Try.sizeOf3 rfl rfl rfl) rfl ?_
          obtain ⟨x41, hc42, h⟩ := h
          refine WQ_look (fun w => w.cell? ((p28.add (i22.toNat * 3)).add 1) = some (.int .i64 x41)) rfl gd0 (fun w hc => (o_load Try.isAgg3 rfl hc)) hc42 rfl ?_
          refine WQ_val rfl gd0 (o_move (v := .slice l_a1 l_n2 l_c3) (by exact e0_18)) rfl ?_
          refine WQ_val rfl gd0 (o_move (v := .int .i64 i22) (by exact e6_21)) rfl ?_
          obtain ⟨l43, u44, h⟩ := h
          refine WQ_val rfl gd0 (o_indexAddr Try.underlying22 Try.sizeOf32 (by exact (congrArg (fun z => Value.slice z l_n2 l_c3) q29)) rfl l43 u44) rfl ?_
          refine WQ_val rfl gd0 (o_fieldAddr 2 Try.underlying32 rfl Try.sizeOf3 rfl rfl rfl) rfl ?_
          obtain ⟨x45, hc46, h⟩ := h
          refine WQ_look (fun w => w.cell? ((p28.add (i22.toNat * 3)).add 2) = some (.int .i64 x45)) rfl gd0 (fun w hc => (o_load Try.isAgg3 rfl hc)) hc46 rfl ?_
          refine WQ_call rfl gd0 (o_call Try.call16 (argCons rfl (argCons rfl (argCons rfl argNil))) _) rfl (h.mono ?_)
          rintro _ w47 ⟨x48, rfl, h⟩
          refine ⟨⟨⟨trivial, depT (by kernel_rfl)⟩, depT (by kernel_rfl)⟩, ?_⟩
          refine WQ_nil ?_
          refine nrmB ?_
          refine nrm ?_
          refine WC_region ?_
          refine WL_val gd0 ((o_move (v := .int .i64 i22) (by exact e6_21)) _) rfl ?_
          refine WL_val gd0 ((o_add rfl rfl) _) rfl ?_
          refine WL_val gd0 ((o_assign (v := .int .i64 (IntKind.i64.wrap (i22 + 1))) rfl) _) rfl ?_
          refine WL_nil ?_
          refine nrm ?_
          obtain ⟨m24, hm24, h⟩ := h
          exact ⟨m24, hm24, _, rfl, e0_18, e1_19, e5_20, h⟩
      · rw [if_neg (of_decide_eq_false hb25)] at h
        refine WC_exit ?_
        refine exT ?_
        refine exT ?_
        refine exB ?_
        refine nrm ?_
        refine WC_seq ?_
        refine WC_seq ?_
        refine WC_region ?_
        refine WL_val gd0 ((o_move (v := .pointer m7) (by exact e5_20)) _) rfl ?_
        refine WL_call gd0 (o_call Try.call15 (argCons rfl (argCons rfl argNil)) _) rfl (h.mono ?_)
        rintro _ w49 ⟨x50, rfl, h⟩
        refine WL_val gd0 ((o_neq rfl rfl) _) rfl ?_
        refine WL_val gd0 ((o_move (v := .bool (decide (x50 ≠ 0))) rfl) _) rfl ?_
        refine bsplit (decide (x50 ≠ 0)) (fun hb51 => ?_) (fun hb51 => ?_)
        · rw [if_pos (of_decide_eq_true hb51)] at h
          refine WL_skip (gdN (b := (decide (x50 ≠ 0))) 55 rfl rfl hb51) rfl ?_
          refine WL_skip (gdN (b := (decide (x50 ≠ 0))) 55 rfl rfl hb51) rfl ?_
          refine WL_skip (gdN (b := (decide (x50 ≠ 0))) 55 rfl rfl hb51) rfl ?_
          refine WL_val gd0 ((o_pickT (v := .bool true) rfl hb51 rfl) _) rfl ?_
          refine WL_nil ?_
          refine nrm ?_
          refine WC_cond (t := true) rfl (fun _ => ?_) (fun hx => by rw [(rfl : true = true)] at hx; cases hx)
          refine WC_seq ?_
          refine WC_region ?_
          refine WL_val gd0 ((o_assign (v := .bool false) rfl) _) rfl ?_
          refine WL_nil ?_
          refine nrm ?_
          refine WC_ret ?_
          refine rtT ?_
          refine rtE ?_
          exact gv1 rfl rfl h
        · rw [if_neg (of_decide_eq_false hb51)] at h
          refine WL_val (gdY (b := (decide (x50 ≠ 0))) 55 rfl rfl hb51) ((o_move (v := .pointer m7) (by exact e5_20)) _) rfl ?_
          refine WL_call (gdY (b := (decide (x50 ≠ 0))) 55 rfl rfl hb51) (o_call Try.call17 (argCons rfl argNil) _) rfl (h.mono ?_)
          rintro _ w52 ⟨x53, rfl, h⟩
          refine WL_val (gdY (b := (decide (x50 ≠ 0))) 55 rfl rfl hb51) ((o_neq rfl rfl) _) rfl ?_
          refine WL_val gd0 ((o_pickF (v := .bool (decide (x53 ≠ 1))) rfl hb51 rfl) _) rfl ?_
          refine WL_nil ?_
          refine nrm ?_
          refine WC_cond (t := (decide (x53 ≠ 1))) rfl (fun hb54 => ?_) (fun hb54 => ?_)
          · rw [if_pos (of_decide_eq_true hb54)] at h
            refine WC_seq ?_
            refine WC_region ?_
            refine WL_val gd0 ((o_assign (v := .bool false) rfl) _) rfl ?_
            refine WL_nil ?_
            refine nrm ?_
            refine WC_ret ?_
            refine rtT ?_
            refine rtE ?_
            exact gv1 rfl rfl h
          · rw [if_neg (of_decide_eq_false hb54)] at h
            refine WC_skip ?_
            refine nrm ?_
            refine WC_seq ?_
            refine WC_region ?_
            refine WL_val gd0 ((o_move (v := .int .u8 to4) (by exact e1_19)) _) rfl ?_
            refine WL_val gd0 ((fun w => o_rem rfl rfl w (by decide)) _) rfl ?_
            refine WL_val gd0 ((o_conv Try.underlying5 Try.underlying3 rfl) _) rfl ?_
            refine WL_val gd0 ((o_add rfl rfl) _) rfl ?_
            refine WL_val gd0 ((o_assign (v := .int .i64 (IntKind.i64.wrap (1 + (IntKind.i64.wrap (Int.tmod to4 4))))) rfl) _) rfl ?_
            refine WL_nil ?_
            refine nrm ?_
            refine WC_seq ?_
            refine WC_seq ?_
            refine WC_region ?_
            refine WL_val gd0 ((o_assign (v := .int .i64 2) rfl) _) rfl ?_
            refine WL_nil ?_
            refine nrm ?_
            refine WC_block ?_
            obtain ⟨J59, ⟨n59, h0⟩, hr59⟩ := h
            refine WC_loop (fun n ρ w' => ∃ (k58 : Int), ρ 8 = .int .i64 k58 ∧ ρ 5 = .pointer m7 ∧ ρ 7 = .int .i64 (IntKind.i64.wrap (1 + (IntKind.i64.wrap (Int.tmod to4 4)))) ∧ J59 n k58 w') ⟨n59, _, rfl, e5_20, rfl, h0⟩ ?_
            rintro n59 ρ w59 ⟨k58, e8_57, e5_55, e7_56, h⟩
            have h : F6_b3 to4 m7 k58 w59 k (fun x0 w => ∃ m, m < n59 ∧ J59 m x0 w) := hr59 n59 k58 w59 h
            unfold F6_b3 at h
            refine WC_seq ?_
            refine WC_seq ?_
            refine WC_region ?_
            refine WL_val gd0 ((o_move (v := .int .i64 k58) (by exact e8_57)) _) rfl ?_
            refine WL_val gd0 ((o_move (v := .int .i64 (IntKind.i64.wrap (1 + (IntKind.i64.wrap (Int.tmod to4 4))))) (by exact e7_56)) _) rfl ?_
            refine WL_val gd0 ((o_leq rfl rfl) _) rfl ?_
            refine WL_nil ?_
            refine nrm ?_
            refine WC_cond (t := (decide (k58 ≤ (IntKind.i64.wrap (1 + (IntKind.i64.wrap (Int.tmod to4 4))))))) rfl (fun hb61 => ?_) (fun hb61 => ?_)
            · rw [if_pos (of_decide_eq_true hb61)] at h
              refine WC_skip ?_
              refine nrm ?_
              refine WC_seq ?_
              refine WC_block ?_
              refine WC_seq ?_
              refine WC_region ?_
              refine WL_val gd0 ((o_move (v := .pointer m7) (by exact e5_55)) _) rfl ?_
              refine WL_val gd0 ((o_move (v := .int .i64 k58) (by exact e8_57)) _) rfl ?_
              refine WL_call gd0 (o_call Try.call16 (argCons rfl (argCons rfl (argCons rfl argNil))) _) rfl (h.mono ?_)
              rintro _ w62 ⟨x63, rfl, h⟩
              refine WL_val gd0 ((o_neq rfl rfl) _) rfl ?_
              refine WL_nil ?_
              refine nrm ?_
              refine WC_cond (t := (decide (x63 ≠ 0))) rfl (fun hb64 => ?_) (fun hb64 => ?_)
              · rw [if_pos (of_decide_eq_true hb64)] at h
                refine WC_seq ?_
                refine WC_region ?_
                refine WL_val gd0 ((o_assign (v := .bool false) rfl) _) rfl ?_
                refine WL_nil ?_
                refine nrm ?_
                refine WC_ret ?_
                refine rtB ?_
                refine rtT ?_
                refine rtT ?_
                refine rtB ?_
                refine rtT ?_
                refine rtE ?_
                exact gv1 rfl rfl h
              · rw [if_neg (of_decide_eq_false hb64)] at h
                refine WC_skip ?_
                refine nrmB ?_
                refine nrm ?_
                refine WC_region ?_
                refine WL_val gd0 ((o_move (v := .int .i64 k58) (by exact e8_57)) _) rfl ?_
                refine WL_val gd0 ((o_add rfl rfl) _) rfl ?_
                refine WL_val gd0 ((o_assign (v := .int .i64 (IntKind.i64.wrap (k58 + 1))) rfl) _) rfl ?_
                refine WL_nil ?_
                refine nrm ?_
                obtain ⟨m60, hm60, h⟩ := h
                exact ⟨m60, hm60, _, rfl, e5_55, e7_56, h⟩
            · rw [if_neg (of_decide_eq_false hb61)] at h
              refine WC_exit ?_
              refine exT ?_
              refine exT ?_
              refine exB ?_
              refine nrm ?_
              refine WC_seq ?_
              refine WC_region ?_
              refine WL_val gd0 ((o_move (v := .pointer m7) (by exact e5_55)) _) rfl ?_
              refine WL_call gd0 (o_call Try.call17 (argCons rfl argNil) _) rfl (h.mono ?_)
              rintro _ w65 ⟨x66, rfl, h⟩
              refine WL_val gd0 ((o_move (v := .int .i64 (IntKind.i64.wrap (1 + (IntKind.i64.wrap (Int.tmod to4 4))))) (by exact e7_56)) _) rfl ?_
              refine WL_val gd0 ((o_eql rfl rfl) _) rfl ?_
              refine WL_val gd0 ((o_move (v := .bool (decide (x66 = (IntKind.i64.wrap (1 + (IntKind.i64.wrap (Int.tmod to4 4))))))) rfl) _) rfl ?_
              refine bsplit (decide (x66 = (IntKind.i64.wrap (1 + (IntKind.i64.wrap (Int.tmod to4 4)))))) (fun hb67 => ?_) (fun hb67 => ?_)
              · rw [if_pos (of_decide_eq_true hb67)] at h
                refine WL_val (gdY (b := (decide (x66 = (IntKind.i64.wrap (1 + (IntKind.i64.wrap (Int.tmod to4 4))))))) 77 rfl rfl hb67) ((o_move (v := .pointer m7) (by exact e5_55)) _) rfl ?_
                refine WL_call (gdY (b := (decide (x66 = (IntKind.i64.wrap (1 + (IntKind.i64.wrap (Int.tmod to4 4))))))) 77 rfl rfl hb67) (o_call Try.call16 (argCons rfl (argCons rfl (argCons rfl argNil))) _) rfl (h.mono ?_)
                rintro _ w68 ⟨x69, rfl, h⟩
                refine WL_val (gdY (b := (decide (x66 = (IntKind.i64.wrap (1 + (IntKind.i64.wrap (Int.tmod to4 4))))))) 77 rfl rfl hb67) ((o_eql rfl rfl) _) rfl ?_
                refine WL_val gd0 ((o_pickT (v := .bool (decide (x69 = 11))) rfl hb67 rfl) _) rfl ?_
                refine WL_val gd0 ((o_move (v := .bool (decide (x69 = 11))) rfl) _) rfl ?_
                refine bsplit (decide (x69 = 11)) (fun hb70 => ?_) (fun hb70 => ?_)
                · rw [if_pos (of_decide_eq_true hb70)] at h
                  refine WL_call (gdY (b := (decide (x69 = 11))) 82 rfl rfl hb70) (o_call Try.call10 argNil _) rfl (h.mono ?_)
                  rintro _ w71 ⟨x72, rfl, h⟩
                  refine WL_val gd0 ((o_pickT (v := .bool x72) rfl hb70 rfl) _) rfl ?_
                  refine WL_val gd0 ((o_assign (v := .bool x72) rfl) _) rfl ?_
                  refine WL_nil ?_
                  refine nrm ?_
                  refine WC_ret ?_
                  refine rtE ?_
                  exact gv1 rfl rfl h
                · rw [if_neg (of_decide_eq_false hb70)] at h
                  refine WL_skip (gdN (b := (decide (x69 = 11))) 82 rfl rfl hb70) rfl ?_
                  refine WL_val gd0 ((o_pickF (v := .bool false) rfl hb70 rfl) _) rfl ?_
                  refine WL_val gd0 ((o_assign (v := .bool false) rfl) _) rfl ?_
                  refine WL_nil ?_
                  refine nrm ?_
                  refine WC_ret ?_
                  refine rtE ?_
                  exact gv1 rfl rfl h
              · rw [if_neg (of_decide_eq_false hb67)] at h
                refine WL_skip (gdN (b := (decide (x66 = (IntKind.i64.wrap (1 + (IntKind.i64.wrap (Int.tmod to4 4))))))) 77 rfl rfl hb67) rfl ?_
                refine WL_skip (gdN (b := (decide (x66 = (IntKind.i64.wrap (1 + (IntKind.i64.wrap (Int.tmod to4 4))))))) 77 rfl rfl hb67) rfl ?_
                refine WL_skip (gdN (b := (decide (x66 = (IntKind.i64.wrap (1 + (IntKind.i64.wrap (Int.tmod to4 4))))))) 77 rfl rfl hb67) rfl ?_
                refine WL_val gd0 ((o_pickF (v := .bool false) rfl hb67 rfl) _) rfl ?_
                refine WL_val gd0 ((o_move (v := .bool false) rfl) _) rfl ?_
                refine WL_skip (gdN (b := false) 82 rfl rfl rfl) rfl ?_
                refine WL_val gd0 ((o_pickF (v := .bool false) rfl rfl rfl) _) rfl ?_
                refine WL_val gd0 ((o_assign (v := .bool false) rfl) _) rfl ?_
                refine WL_nil ?_
                refine nrm ?_
                refine WC_ret ?_
                refine rtE ?_
                exact gv1 rfl rfl h

def F7_b3 (c_n48 : Nat) (c_a47 : Option Addr) (m6 : Option Addr) (last52 : Int) (time54 : Int) (i57 : Int) (w58 : World) (k : Value → World → Prop) (nx58 : Int → Int → Int → World → Prop) : Prop :=
  if i57 < (c_n48 : Int) then
  ∃ (p63 : Addr), c_a47 = some p63 ∧ (0 : Int) ≤ i57 ∧ i57 < (c_n48 : Int) ∧ ∃ (x65 : Int), w58.drew.cell? ((p63.add (i57.toNat * 3)).add 1) = some (.int .i64 x65) ∧ if x65 ≠ last52 then
    k (.bool false) w58.drew
  else
    (0 : Int) ≤ i57 ∧ i57 < (c_n48 : Int) ∧ ∃ (x70 : Int), w58.drew.cell? (p63.add (i57.toNat * 3)) = some (.int .i64 x70) ∧ if x70 < time54 then
      k (.bool false) w58.drew
    else
      (0 : Int) ≤ i57 ∧ i57 < (c_n48 : Int) ∧ ∃ (x75 : Int), w58.drew.cell? ((p63.add (i57.toNat * 3)).add 2) = some (.int .i64 x75) ∧ (0 : Int) ≤ i57 ∧ i57 < (c_n48 : Int) ∧ ∃ (x79 : Int), w58.drew.cell? ((p63.add (i57.toNat * 3)).add 1) = some (.int .i64 x79) ∧ if x75 = x79 then
        k (.bool false) w58.drew
      else
        (0 : Int) ≤ i57 ∧ i57 < (c_n48 : Int) ∧ ∃ (x84 : Int), w58.drew.cell? ((p63.add (i57.toNat * 3)).add 2) = some (.int .i64 x84) ∧ if x84 ≠ 1 then
          (0 : Int) ≤ i57 ∧ i57 < (c_n48 : Int) ∧ ∃ (x89 : Int), w58.drew.cell? ((p63.add (i57.toNat * 3)).add 1) = some (.int .i64 x89) ∧ (0 : Int) ≤ i57 ∧ i57 < (c_n48 : Int) ∧ ∃ (x93 : Int), w58.drew.cell? ((p63.add (i57.toNat * 3)).add 2) = some (.int .i64 x93) ∧ Does Try.prog 13 #[.int .i64 x89, .int .i64 x93] w58.drew (fun v w95 => ∃ (x96 : Bool), v = .bool x96 ∧ if (!x96) = true then
            k (.bool false) w95
          else
            (0 : Int) ≤ i57 ∧ i57 < (c_n48 : Int) ∧ ∃ (x100 : Int), w95.drew.cell? ((p63.add (i57.toNat * 3)).add 2) = some (.int .i64 x100) ∧ (0 : Int) ≤ i57 ∧ i57 < (c_n48 : Int) ∧ ∃ (x104 : Int), w95.drew.cell? (p63.add (i57.toNat * 3)) = some (.int .i64 x104) ∧ nx58 x100 x104 (IntKind.i64.wrap (i57 + 1)) w95.drew)
        else
          (0 : Int) ≤ i57 ∧ i57 < (c_n48 : Int) ∧ ∃ (x108 : Int), w58.drew.drew.cell? ((p63.add (i57.toNat * 3)).add 2) = some (.int .i64 x108) ∧ (0 : Int) ≤ i57 ∧ i57 < (c_n48 : Int) ∧ ∃ (x112 : Int), w58.drew.drew.cell? (p63.add (i57.toNat * 3)) = some (.int .i64 x112) ∧ nx58 x108 x112 (IntKind.i64.wrap (i57 + 1)) w58.drew.drew
else
  Does Try.prog 17 #[.pointer m6] w58 (fun v w114 => ∃ (x115 : Int), v = .int .i64 x115 ∧ if x115 = last52 then
    Does Try.prog 10 #[] w114 (fun v w117 => ∃ (x118 : Bool), v = .bool x118 ∧ k (.bool x118) w117)
  else
    k (.bool false) w114)
def F7_b2 (l_n2 : Nat) (l_a1 : Option Addr) (m6 : Option Addr) (i19 : Int) (w20 : World) (nx20 : Int → World → Prop) (k : Value → World → Prop) : Prop :=
  if i19 < (l_n2 : Int) then
  ∃ (p25 : Addr), l_a1 = some p25 ∧ (0 : Int) ≤ i19 ∧ i19 < (l_n2 : Int) ∧ ∃ (x27 : Bool), w20.cell? (p25.add (i19.toNat * 3)) = some (.bool x27) ∧ if x27 = true then
    (0 : Int) ≤ i19 ∧ i19 < (l_n2 : Int) ∧ ∃ (x32 : Int), w20.cell? ((p25.add (i19.toNat * 3)).add 2) = some (.int .i64 x32) ∧ Does Try.prog 15 #[.pointer m6, .int .i64 x32] w20 (fun v w34 => ∃ (x35 : Int), v = .int .i64 x35 ∧ nx20 (IntKind.i64.wrap (i19 + 1)) w34)
  else
    (0 : Int) ≤ i19 ∧ i19 < (l_n2 : Int) ∧ ∃ (x38 : Int), w20.drew.cell? ((p25.add (i19.toNat * 3)).add 1) = some (.int .i64 x38) ∧ (0 : Int) ≤ i19 ∧ i19 < (l_n2 : Int) ∧ ∃ (x42 : Int), w20.drew.cell? ((p25.add (i19.toNat * 3)).add 2) = some (.int .i64 x42) ∧ Does Try.prog 16 #[.pointer m6, .int .i64 x38, .int .i64 x42] w20.drew (fun v w44 => ∃ (x45 : Int), v = .int .i64 x45 ∧ nx20 (IntKind.i64.wrap (i19 + 1)) w44)
else
  Does Try.prog 18 #[.pointer m6] w20 (fun v w46 => ∃ (c_a47 : Option Addr) (c_n48 c_c49 : Nat), v = .slice c_a47 c_n48 c_c49 ∧ LoopP (fun (s : Int × Int × Int) w' nx' => F7_b3 c_n48 c_a47 m6 (s.1) (s.2.1) (s.2.2) w' k (fun x0 x1 x2 w => nx' (x0, x1, x2) w)) (0, 0, 0) w46)
def F7_j1 (m6 : Option Addr) (l_n2 : Nat) (l_a1 : Option Addr) (t10 : Bool) (w11 : World) (k : Value → World → Prop) : Prop :=
  if t10 = true then
  if (!(m6).isNone) = true then
    Does Try.prog 10 #[] w11 (fun v w14 => ∃ (x15 : Bool), v = .bool x15 ∧ k (.bool x15) w14)
  else
    k (.bool false) w11
else
  LoopP (fun (s : Int) w' nx' => F7_b2 l_n2 l_a1 m6 s w' (fun x0 w => nx' x0 w) k) 0 w11
/-- spacecraft spacecraftlaw45.ModeChain -/
def F7 (l_a1 : Option Addr) (l_n2 : Nat) (l_c3 : Nat) (w4 : World) (k : Value → World → Prop) : Prop :=
  Does Try.prog 9 #[] w4 (fun v w5 => ∃ (m6 : Option Addr), v = .pointer m6 ∧ if 60 < (l_n2 : Int) then
  F7_j1 m6 l_n2 l_a1 true w5 k
else
  F7_j1 m6 l_n2 l_a1 ((m6).isNone) w5 k)
set_option maxRecDepth 100000 in
set_option maxHeartbeats 2000000 in
theorem w7 (l_a1 : Option Addr) (l_n2 : Nat) (l_c3 : Nat) (w4 : World) (k : Value → World → Prop) (h : F7 l_a1 l_n2 l_c3 w4 k) : Does Try.prog 7 #[.slice l_a1 l_n2 l_c3] w4 k := by
  refine enter 128 Try.func7 rfl rfl rfl ?_
  intro ρ hρ
  have e0 := hρ 0 _ rfl
  unfold F7 at h
  refine WC_seq ?_
  refine WC_region ?_
  refine WL_val gd0 ((o_assign (v := .bool false) rfl) _) rfl ?_
  refine WL_nil ?_
  refine nrm ?_
  refine WC_seq ?_
  refine WC_region ?_
  refine WL_call gd0 (o_call Try.call9 argNil _) rfl (h.mono ?_)
  rintro _ w5 ⟨m6, rfl, h⟩
  refine WL_val gd0 ((o_assign (v := .pointer m6) rfl) _) rfl ?_
  refine WL_nil ?_
  refine nrm ?_
  refine WC_seq ?_
  refine WC_cut (fun ρ w' => ∃ (t10 : Bool), ρ 16 = .bool t10 ∧ ρ 0 = .slice l_a1 l_n2 l_c3 ∧ ρ 3 = .pointer m6 ∧ F7_j1 m6 l_n2 l_a1 t10 w' k) ?_ ?_
  · refine WC_region ?_
    refine WL_val gd0 ((o_move (v := .slice l_a1 l_n2 l_c3) (by exact e0)) _) rfl ?_
    refine WL_val gd0 ((o_len Try.underlying22 rfl) _) rfl ?_
    refine WL_val gd0 ((o_gtr rfl rfl) _) rfl ?_
    refine WL_val gd0 ((o_move (v := .bool (decide (60 < (l_n2 : Int)))) rfl) _) rfl ?_
    refine bsplit (decide (60 < (l_n2 : Int))) (fun hb119 => ?_) (fun hb119 => ?_)
    · rw [if_pos (of_decide_eq_true hb119)] at h
      refine WL_skip (gdN (b := (decide (60 < (l_n2 : Int)))) 13 rfl rfl hb119) rfl ?_
      refine WL_skip (gdN (b := (decide (60 < (l_n2 : Int)))) 13 rfl rfl hb119) rfl ?_
      refine WL_val gd0 ((o_pickT (v := .bool true) rfl hb119 rfl) _) rfl ?_
      refine WL_nil ?_
      refine nrm ?_
      exact ⟨_, rfl, e0, rfl, h⟩
    · rw [if_neg (of_decide_eq_false hb119)] at h
      refine WL_val (gdY (b := (decide (60 < (l_n2 : Int)))) 13 rfl rfl hb119) ((o_move (v := .pointer m6) rfl) _) rfl ?_
      refine WL_val (gdY (b := (decide (60 < (l_n2 : Int)))) 13 rfl rfl hb119) ((o_eqlPtrNil Try.underlying23 rfl rfl) _) rfl ?_
      refine WL_val gd0 ((o_pickF (v := .bool ((m6).isNone)) rfl hb119 rfl) _) rfl ?_
      refine WL_nil ?_
      refine nrm ?_
      exact ⟨_, rfl, e0, rfl, h⟩
  · rintro ρ w11 ⟨t10, e16_9, e0_7, e3_8, h⟩
    unfold F7_j1 at h
    refine WC_cond (t := t10) (by exact e16_9) (fun hb12 => ?_) (fun hb12 => ?_)
    · rw [if_pos hb12] at h
      refine WC_seq ?_
      refine WC_region ?_
      refine WL_val gd0 ((o_move (v := .pointer m6) (by exact e3_8)) _) rfl ?_
      refine WL_val gd0 ((o_neqPtrNil Try.underlying23 rfl rfl) _) rfl ?_
      refine WL_val gd0 ((o_move (v := .bool (!(m6).isNone)) rfl) _) rfl ?_
      refine bsplit (!(m6).isNone) (fun hb13 => ?_) (fun hb13 => ?_)
      · rw [if_pos hb13] at h
        refine WL_call (gdY (b := (!(m6).isNone)) 19 rfl rfl hb13) (o_call Try.call10 argNil _) rfl (h.mono ?_)
        rintro _ w14 ⟨x15, rfl, h⟩
        refine WL_val gd0 ((o_pickT (v := .bool x15) rfl hb13 rfl) _) rfl ?_
        refine WL_val gd0 ((o_assign (v := .bool x15) rfl) _) rfl ?_
        refine WL_nil ?_
        refine nrm ?_
        refine WC_ret ?_
        refine rtT ?_
        refine rtE ?_
        exact gv1 rfl rfl h
      · rw [if_neg (neT hb13)] at h
        refine WL_skip (gdN (b := (!(m6).isNone)) 19 rfl rfl hb13) rfl ?_
        refine WL_val gd0 ((o_pickF (v := .bool false) rfl hb13 rfl) _) rfl ?_
        refine WL_val gd0 ((o_assign (v := .bool false) rfl) _) rfl ?_
        refine WL_nil ?_
        refine nrm ?_
        refine WC_ret ?_
        refine rtT ?_
        refine rtE ?_
        exact gv1 rfl rfl h
    · rw [if_neg (neT hb12)] at h
      refine WC_skip ?_
      refine nrm ?_
      refine WC_seq ?_
      refine WC_seq ?_
      refine WC_region ?_
      refine WL_val gd0 ((o_assign (v := .int .i64 0) rfl) _) rfl ?_
      refine WL_nil ?_
      refine nrm ?_
      refine WC_block ?_
      obtain ⟨J20, ⟨n20, h0⟩, hr20⟩ := h
      refine WC_loop (fun n ρ w' => ∃ (i19 : Int), ρ 4 = .int .i64 i19 ∧ ρ 0 = .slice l_a1 l_n2 l_c3 ∧ ρ 3 = .pointer m6 ∧ J20 n i19 w') ⟨n20, _, rfl, e0_7, e3_8, h0⟩ ?_
      rintro n20 ρ w20 ⟨i19, e4_18, e0_16, e3_17, h⟩
      have h : F7_b2 l_n2 l_a1 m6 i19 w20 (fun x0 w => ∃ m, m < n20 ∧ J20 m x0 w) k := hr20 n20 i19 w20 h
      unfold F7_b2 at h
      refine WC_seq ?_
      refine WC_seq ?_
      refine WC_region ?_
      refine WL_val gd0 ((o_move (v := .int .i64 i19) (by exact e4_18)) _) rfl ?_
      refine WL_val gd0 ((o_move (v := .slice l_a1 l_n2 l_c3) (by exact e0_16)) _) rfl ?_
      refine WL_val gd0 ((o_len Try.underlying22 rfl) _) rfl ?_
      refine WL_val gd0 ((o_lss rfl rfl) _) rfl ?_
      refine WL_nil ?_
      refine nrm ?_
      refine WC_cond (t := (decide (i19 < (l_n2 : Int)))) rfl (fun hb22 => ?_) (fun hb22 => ?_)
      · rw [if_pos (of_decide_eq_true hb22)] at h
        refine WC_skip ?_
        refine nrm ?_
        refine WC_seq ?_
        refine WC_block ?_
        refine WC_seq ?_
        refine WC_region ?_
        refine WL_val gd0 ((o_move (v := .slice l_a1 l_n2 l_c3) (by exact e0_16)) _) rfl ?_
        refine WL_val gd0 ((o_move (v := .int .i64 i19) (by exact e4_18)) _) rfl ?_
        obtain ⟨p25, q26, h⟩ := h
        obtain ⟨l23, u24, h⟩ := h
        refine WL_val gd0 ((o_indexAddr Try.underlying22 Try.sizeOf32 (by exact (congrArg (fun z => Value.slice z l_n2 l_c3) q26)) rfl l23 u24) _) rfl ?_
        refine WL_val gd0 ((o_fieldAddr0 Try.underlying32 rfl Try.sizeOf4 rfl rfl rfl) _) rfl ?_
        obtain ⟨x27, hc28, h⟩ := h
        refine WL_val gd0 (o_load Try.isAgg4 rfl hc28) rfl ?_
        refine WL_nil ?_
        refine nrm ?_
        refine WC_cond (t := x27) rfl (fun hb29 => ?_) (fun hb29 => ?_)
        · rw [if_pos hb29] at h
          refine WC_region ?_
          refine WL_val gd0 ((o_move (v := .pointer m6) (by exact e3_17)) _) rfl ?_
          refine WL_val gd0 ((o_move (v := .slice l_a1 l_n2 l_c3) (by exact e0_16)) _) rfl ?_
          refine WL_val gd0 ((o_move (v := .int .i64 i19) (by exact e4_18)) _) rfl ?_
          obtain ⟨l30, u31, h⟩ := h
          refine WL_val gd0 ((o_indexAddr Try.underlying22 Try.sizeOf32 (by exact (congrArg (fun z => Value.slice z l_n2 l_c3) q26)) rfl l30 u31) _) rfl ?_
          refine WL_val gd0 ((o_fieldAddr 2 Try.underlying32 rfl Try.sizeOf3 rfl rfl rfl) _) rfl ?_
          obtain ⟨x32, hc33, h⟩ := h
          refine WL_val gd0 (o_load Try.isAgg3 rfl hc33) rfl ?_
          refine WL_call gd0 (o_call Try.call15 (argCons rfl (argCons rfl argNil)) _) rfl (h.mono ?_)
          rintro _ w34 ⟨x35, rfl, h⟩
          refine WL_nil ?_
          refine nrmB ?_
          refine nrm ?_
          refine WC_region ?_
          refine WL_val gd0 ((o_move (v := .int .i64 i19) (by exact e4_18)) _) rfl ?_
          refine WL_val gd0 ((o_add rfl rfl) _) rfl ?_
          refine WL_val gd0 ((o_assign (v := .int .i64 (IntKind.i64.wrap (i19 + 1))) rfl) _) rfl ?_
          refine WL_nil ?_
          refine nrm ?_
          obtain ⟨m21, hm21, h⟩ := h
          exact ⟨m21, hm21, _, rfl, e0_16, e3_17, h⟩
        · rw [if_neg (neT hb29)] at h
          refine WC_draws [11] (.look 0 (.look 1 (.look 2 (.look 3 (.look 4 (.look 5 (.look 6 (.look 7 (.look 8 (.look 9 (.look 10 (.act 11 .nil)))))))))))) Try.mixed (by kernel_rfl) ?_
          refine WQ_val rfl gd0 (o_move (v := .pointer m6) (by exact e3_17)) rfl ?_
          refine WQ_val rfl gd0 (o_move (v := .slice l_a1 l_n2 l_c3) (by exact e0_16)) rfl ?_
          refine WQ_val rfl gd0 (o_move (v := .int .i64 i19) (by exact e4_18)) rfl ?_
          obtain ⟨l36, u37, h⟩ := h
          refine WQ_val rfl gd0 (o_indexAddr Try.underlying22 Try.sizeOf32 (by exact (congrArg (fun z => Value.slice z l_n2 l_c3) q26)) rfl l36 u37) rfl ?_
          refine WQ_val rfl gd0 (o_fieldAddr 1 Try.underlying32 rfl Try.sizeOf3 rfl rfl rfl) rfl ?_
          obtain ⟨x38, hc39, h⟩ := h
          refine WQ_look (fun w => w.cell? ((p25.add (i19.toNat * 3)).add 1) = some (.int .i64 x38)) rfl gd0 (fun w hc => (o_load Try.isAgg3 rfl hc)) hc39 rfl ?_
          refine WQ_val rfl gd0 (o_move (v := .slice l_a1 l_n2 l_c3) (by exact e0_16)) rfl ?_
          refine WQ_val rfl gd0 (o_move (v := .int .i64 i19) (by exact e4_18)) rfl ?_
          obtain ⟨l40, u41, h⟩ := h
          refine WQ_val rfl gd0 (o_indexAddr Try.underlying22 Try.sizeOf32 (by exact (congrArg (fun z => Value.slice z l_n2 l_c3) q26)) rfl l40 u41) rfl ?_
          refine WQ_val rfl gd0 (o_fieldAddr 2 Try.underlying32 rfl Try.sizeOf3 rfl rfl rfl) rfl ?_
          obtain ⟨x42, hc43, h⟩ := h
          refine WQ_look (fun w => w.cell? ((p25.add (i19.toNat * 3)).add 2) = some (.int .i64 x42)) rfl gd0 (fun w hc => (o_load Try.isAgg3 rfl hc)) hc43 rfl ?_
          refine WQ_call rfl gd0 (o_call Try.call16 (argCons rfl (argCons rfl (argCons rfl argNil))) _) rfl (h.mono ?_)
          rintro _ w44 ⟨x45, rfl, h⟩
          refine ⟨⟨⟨trivial, depT (by kernel_rfl)⟩, depT (by kernel_rfl)⟩, ?_⟩
          refine WQ_nil ?_
          refine nrmB ?_
          refine nrm ?_
          refine WC_region ?_
          refine WL_val gd0 ((o_move (v := .int .i64 i19) (by exact e4_18)) _) rfl ?_
          refine WL_val gd0 ((o_add rfl rfl) _) rfl ?_
          refine WL_val gd0 ((o_assign (v := .int .i64 (IntKind.i64.wrap (i19 + 1))) rfl) _) rfl ?_
          refine WL_nil ?_
          refine nrm ?_
          obtain ⟨m21, hm21, h⟩ := h
          exact ⟨m21, hm21, _, rfl, e0_16, e3_17, h⟩
      · rw [if_neg (of_decide_eq_false hb22)] at h
        refine WC_exit ?_
        refine exT ?_
        refine exT ?_
        refine exB ?_
        refine nrm ?_
        refine WC_seq ?_
        refine WC_region ?_
        refine WL_val gd0 ((o_assign (v := .int .i64 0) rfl) _) rfl ?_
        refine WL_val gd0 ((o_assign (v := .int .i64 0) rfl) _) rfl ?_
        refine WL_nil ?_
        refine nrm ?_
        refine WC_seq ?_
        refine WC_region ?_
        refine WL_val gd0 ((o_move (v := .pointer m6) (by exact e3_17)) _) rfl ?_
        refine WL_call gd0 (o_call Try.call18 (argCons rfl argNil) _) rfl (h.mono ?_)
        rintro _ w46 ⟨c_a47, c_n48, c_c49, rfl, h⟩
        refine WL_val gd0 ((o_assign (v := .slice c_a47 c_n48 c_c49) rfl) _) rfl ?_
        refine WL_nil ?_
        refine nrm ?_
        refine WC_seq ?_
        refine WC_seq ?_
        refine WC_region ?_
        refine WL_val gd0 ((o_assign (v := .int .i64 0) rfl) _) rfl ?_
        refine WL_nil ?_
        refine nrm ?_
        refine WC_block ?_
        obtain ⟨J58, ⟨n58, h0⟩, hr58⟩ := h
        refine WC_loop (fun n ρ w' => ∃ (last52 time54 i57 : Int), ρ 5 = .int .i64 last52 ∧ ρ 6 = .int .i64 time54 ∧ ρ 8 = .int .i64 i57 ∧ ρ 3 = .pointer m6 ∧ ρ 7 = .slice c_a47 c_n48 c_c49 ∧ J58 n (last52, time54, i57) w') ⟨n58, _, _, _, rfl, rfl, rfl, e3_17, rfl, h0⟩ ?_
        rintro n58 ρ w58 ⟨last52, time54, i57, e5_51, e6_53, e8_56, e3_50, e7_55, h⟩
        have h : F7_b3 c_n48 c_a47 m6 last52 time54 i57 w58 k (fun x0 x1 x2 w => ∃ m, m < n58 ∧ J58 m (x0, x1, x2) w) := hr58 n58 (last52, time54, i57) w58 h
        unfold F7_b3 at h
        refine WC_seq ?_
        refine WC_seq ?_
        refine WC_region ?_
        refine WL_val gd0 ((o_move (v := .int .i64 i57) (by exact e8_56)) _) rfl ?_
        refine WL_val gd0 ((o_move (v := .slice c_a47 c_n48 c_c49) (by exact e7_55)) _) rfl ?_
        refine WL_val gd0 ((o_len Try.underlying43 rfl) _) rfl ?_
        refine WL_val gd0 ((o_lss rfl rfl) _) rfl ?_
        refine WL_nil ?_
        refine nrm ?_
        refine WC_cond (t := (decide (i57 < (c_n48 : Int)))) rfl (fun hb60 => ?_) (fun hb60 => ?_)
        · rw [if_pos (of_decide_eq_true hb60)] at h
          refine WC_skip ?_
          refine nrm ?_
          refine WC_seq ?_
          refine WC_block ?_
          refine WC_seq ?_
          refine WC_seq ?_
          refine WC_draws [47] (.look 0 (.look 1 (.look 2 (.look 3 (.look 4 (.look 5 (.look 6 (.look 7 (.look 8 (.look 9 (.look 10 (.look 11 (.look 12 (.look 13 (.look 14 (.look 15 (.look 16 (.look 17 (.look 18 (.look 19 (.look 20 (.look 21 (.look 22 (.look 23 (.look 24 (.look 25 (.look 26 (.look 27 (.look 28 (.look 29 (.look 30 (.look 31 (.look 32 (.look 33 (.look 34 (.look 35 (.look 36 (.look 37 (.look 38 (.look 39 (.look 40 (.look 41 (.look 42 (.look 43 (.look 44 (.look 45 (.look 46 (.act 47 (.look 48 (.look 49 (.look 50 .nil))))))))))))))))))))))))))))))))))))))))))))))))))) Try.mixed (by kernel_rfl) ?_
          refine WQ_val rfl gd0 (o_move (v := .slice c_a47 c_n48 c_c49) (by exact e7_55)) rfl ?_
          refine WQ_val rfl gd0 (o_move (v := .int .i64 i57) (by exact e8_56)) rfl ?_
          obtain ⟨p63, q64, h⟩ := h
          obtain ⟨l61, u62, h⟩ := h
          refine WQ_val rfl gd0 (o_indexAddr Try.underlying43 Try.sizeOf46 (by exact (congrArg (fun z => Value.slice z c_n48 c_c49) q64)) rfl l61 u62) rfl ?_
          refine WQ_val rfl gd0 (o_fieldAddr 1 Try.underlying46 rfl Try.sizeOf3 rfl rfl rfl) rfl ?_
          obtain ⟨x65, hc66, h⟩ := h
          refine WQ_look (fun w => w.cell? ((p63.add (i57.toNat * 3)).add 1) = some (.int .i64 x65)) rfl gd0 (fun w hc => (o_load Try.isAgg3 rfl hc)) hc66 rfl ?_
          refine WQ_val rfl gd0 (o_move (v := .int .i64 last52) (by exact e5_51)) rfl ?_
          refine WQ_val rfl gd0 (o_neq rfl rfl) rfl ?_
          refine WQ_val rfl gd0 (o_move (v := .bool (decide (x65 ≠ last52))) rfl) rfl ?_
          refine bsplit (decide (x65 ≠ last52)) (fun hb67 => ?_) (fun hb67 => ?_)
          · rw [if_pos (of_decide_eq_true hb67)] at h
            refine WQ_skip rfl (gdN (b := (decide (x65 ≠ last52))) 67 rfl rfl hb67) rfl ?_
            refine WQ_skip rfl (gdN (b := (decide (x65 ≠ last52))) 67 rfl rfl hb67) rfl ?_
            refine WQ_skip rfl (gdN (b := (decide (x65 ≠ last52))) 67 rfl rfl hb67) rfl ?_
            refine WQ_skip rfl (gdN (b := (decide (x65 ≠ last52))) 67 rfl rfl hb67) rfl ?_
            refine WQ_skip rfl (gdN (b := (decide (x65 ≠ last52))) 67 rfl rfl hb67) rfl ?_
            refine WQ_skip rfl (gdN (b := (decide (x65 ≠ last52))) 67 rfl rfl hb67) rfl ?_
            refine WQ_skip rfl (gdN (b := (decide (x65 ≠ last52))) 67 rfl rfl hb67) rfl ?_
            refine WQ_val rfl gd0 (o_pickT (v := .bool true) rfl hb67 rfl) rfl ?_
            refine WQ_val rfl gd0 (o_move (v := .bool true) rfl) rfl ?_
            refine WQ_skip rfl (gdN (b := true) 76 rfl rfl rfl) rfl ?_
            refine WQ_skip rfl (gdN (b := true) 76 rfl rfl rfl) rfl ?_
            refine WQ_skip rfl (gdN (b := true) 76 rfl rfl rfl) rfl ?_
            refine WQ_skip rfl (gdN (b := true) 76 rfl rfl rfl) rfl ?_
            refine WQ_skip rfl (gdN (b := true) 76 rfl rfl rfl) rfl ?_
            refine WQ_skip rfl (gdN (b := true) 76 rfl rfl rfl) rfl ?_
            refine WQ_skip rfl (gdN (b := true) 76 rfl rfl rfl) rfl ?_
            refine WQ_skip rfl (gdN (b := true) 76 rfl rfl rfl) rfl ?_
            refine WQ_skip rfl (gdN (b := true) 76 rfl rfl rfl) rfl ?_
            refine WQ_skip rfl (gdN (b := true) 76 rfl rfl rfl) rfl ?_
            refine WQ_skip rfl (gdN (b := true) 76 rfl rfl rfl) rfl ?_
            refine WQ_val rfl gd0 (o_pickT (v := .bool true) rfl rfl rfl) rfl ?_
            refine WQ_val rfl gd0 (o_move (v := .bool true) rfl) rfl ?_
            refine WQ_skip rfl (gdN (b := true) 89 rfl rfl rfl) rfl ?_
            refine WQ_skip rfl (gdN (b := true) 89 rfl rfl rfl) rfl ?_
            refine WQ_skip rfl (gdN (b := true) 89 rfl rfl rfl) rfl ?_
            refine WQ_skip rfl (gdN (b := true) 89 rfl rfl rfl) rfl ?_
            refine WQ_skip rfl (gdN (b := true) 89 rfl rfl rfl) rfl ?_
            refine WQ_skip rfl (gdN (b := true) 89 rfl rfl rfl) rfl ?_
            refine WQ_skip rfl (gdN (b := true) 89 rfl rfl rfl) rfl ?_
            refine WQ_skip rfl (gdU 96 rfl rfl) rfl ?_
            refine WQ_skip rfl (gdU 96 rfl rfl) rfl ?_
            refine WQ_skip rfl (gdU 96 rfl rfl) rfl ?_
            refine WQ_skip rfl (gdU 96 rfl rfl) rfl ?_
            refine WQ_skip rfl (gdU 96 rfl rfl) rfl ?_
            refine WQ_skip rfl (gdU 96 rfl rfl) rfl ?_
            refine WQ_skip rfl (gdU 96 rfl rfl) rfl ?_
            refine WQ_skip rfl (gdU 96 rfl rfl) rfl ?_
            refine WQ_skip rfl (gdU 96 rfl rfl) rfl ?_
            refine WQ_skip rfl (gdU 96 rfl rfl) rfl ?_
            refine WQ_passAct rfl (gdU 96 rfl rfl) rfl (by exact ⟨trivial, depT (by kernel_rfl)⟩) ?_
            refine WQ_skip rfl (gdU 96 rfl rfl) rfl ?_
            refine WQ_skip rfl (gdN (b := true) 89 rfl rfl rfl) rfl ?_
            refine WQ_val rfl gd0 (o_pickT (v := .bool true) rfl rfl rfl) rfl ?_
            refine WQ_nil ?_
            refine nrm ?_
            refine WC_cond (t := true) rfl (fun _ => ?_) (fun hx => by rw [(rfl : true = true)] at hx; cases hx)
            refine WC_seq ?_
            refine WC_region ?_
            refine WL_val gd0 ((o_assign (v := .bool false) rfl) _) rfl ?_
            refine WL_nil ?_
            refine nrm ?_
            refine WC_ret ?_
            refine rtT ?_
            refine rtB ?_
            refine rtT ?_
            refine rtT ?_
            refine rtB ?_
            refine rtT ?_
            refine rtE ?_
            exact gv1 rfl rfl h
          · rw [if_neg (of_decide_eq_false hb67)] at h
            refine WQ_val rfl (gdY (b := (decide (x65 ≠ last52))) 67 rfl rfl hb67) (o_move (v := .slice c_a47 c_n48 c_c49) (by exact e7_55)) rfl ?_
            refine WQ_val rfl (gdY (b := (decide (x65 ≠ last52))) 67 rfl rfl hb67) (o_move (v := .int .i64 i57) (by exact e8_56)) rfl ?_
            obtain ⟨l68, u69, h⟩ := h
            refine WQ_val rfl (gdY (b := (decide (x65 ≠ last52))) 67 rfl rfl hb67) (o_indexAddr Try.underlying43 Try.sizeOf46 (by exact (congrArg (fun z => Value.slice z c_n48 c_c49) q64)) rfl l68 u69) rfl ?_
            refine WQ_val rfl (gdY (b := (decide (x65 ≠ last52))) 67 rfl rfl hb67) (o_fieldAddr0 Try.underlying46 rfl Try.sizeOf3 rfl rfl rfl) rfl ?_
            obtain ⟨x70, hc71, h⟩ := h
            refine WQ_look (fun w => w.cell? (p63.add (i57.toNat * 3)) = some (.int .i64 x70)) rfl (gdY (b := (decide (x65 ≠ last52))) 67 rfl rfl hb67) (fun w hc => (o_load Try.isAgg3 rfl hc)) hc71 rfl ?_
            refine WQ_val rfl (gdY (b := (decide (x65 ≠ last52))) 67 rfl rfl hb67) (o_move (v := .int .i64 time54) (by exact e6_53)) rfl ?_
            refine WQ_val rfl (gdY (b := (decide (x65 ≠ last52))) 67 rfl rfl hb67) (o_lss rfl rfl) rfl ?_
            refine WQ_val rfl gd0 (o_pickF (v := .bool (decide (x70 < time54))) rfl hb67 rfl) rfl ?_
            refine WQ_val rfl gd0 (o_move (v := .bool (decide (x70 < time54))) rfl) rfl ?_
            refine bsplit (decide (x70 < time54)) (fun hb72 => ?_) (fun hb72 => ?_)
            · rw [if_pos (of_decide_eq_true hb72)] at h
              refine WQ_skip rfl (gdN (b := (decide (x70 < time54))) 76 rfl rfl hb72) rfl ?_
              refine WQ_skip rfl (gdN (b := (decide (x70 < time54))) 76 rfl rfl hb72) rfl ?_
              refine WQ_skip rfl (gdN (b := (decide (x70 < time54))) 76 rfl rfl hb72) rfl ?_
              refine WQ_skip rfl (gdN (b := (decide (x70 < time54))) 76 rfl rfl hb72) rfl ?_
              refine WQ_skip rfl (gdN (b := (decide (x70 < time54))) 76 rfl rfl hb72) rfl ?_
              refine WQ_skip rfl (gdN (b := (decide (x70 < time54))) 76 rfl rfl hb72) rfl ?_
              refine WQ_skip rfl (gdN (b := (decide (x70 < time54))) 76 rfl rfl hb72) rfl ?_
              refine WQ_skip rfl (gdN (b := (decide (x70 < time54))) 76 rfl rfl hb72) rfl ?_
              refine WQ_skip rfl (gdN (b := (decide (x70 < time54))) 76 rfl rfl hb72) rfl ?_
              refine WQ_skip rfl (gdN (b := (decide (x70 < time54))) 76 rfl rfl hb72) rfl ?_
              refine WQ_skip rfl (gdN (b := (decide (x70 < time54))) 76 rfl rfl hb72) rfl ?_
              refine WQ_val rfl gd0 (o_pickT (v := .bool true) rfl hb72 rfl) rfl ?_
              refine WQ_val rfl gd0 (o_move (v := .bool true) rfl) rfl ?_
              refine WQ_skip rfl (gdN (b := true) 89 rfl rfl rfl) rfl ?_
              refine WQ_skip rfl (gdN (b := true) 89 rfl rfl rfl) rfl ?_
              refine WQ_skip rfl (gdN (b := true) 89 rfl rfl rfl) rfl ?_
              refine WQ_skip rfl (gdN (b := true) 89 rfl rfl rfl) rfl ?_
              refine WQ_skip rfl (gdN (b := true) 89 rfl rfl rfl) rfl ?_
              refine WQ_skip rfl (gdN (b := true) 89 rfl rfl rfl) rfl ?_
              refine WQ_skip rfl (gdN (b := true) 89 rfl rfl rfl) rfl ?_
              refine WQ_skip rfl (gdU 96 rfl rfl) rfl ?_
              refine WQ_skip rfl (gdU 96 rfl rfl) rfl ?_
              refine WQ_skip rfl (gdU 96 rfl rfl) rfl ?_
              refine WQ_skip rfl (gdU 96 rfl rfl) rfl ?_
              refine WQ_skip rfl (gdU 96 rfl rfl) rfl ?_
              refine WQ_skip rfl (gdU 96 rfl rfl) rfl ?_
              refine WQ_skip rfl (gdU 96 rfl rfl) rfl ?_
              refine WQ_skip rfl (gdU 96 rfl rfl) rfl ?_
              refine WQ_skip rfl (gdU 96 rfl rfl) rfl ?_
              refine WQ_skip rfl (gdU 96 rfl rfl) rfl ?_
              refine WQ_passAct rfl (gdU 96 rfl rfl) rfl (by exact ⟨⟨trivial, depT (by kernel_rfl)⟩, depT (by kernel_rfl)⟩) ?_
              refine WQ_skip rfl (gdU 96 rfl rfl) rfl ?_
              refine WQ_skip rfl (gdN (b := true) 89 rfl rfl rfl) rfl ?_
              refine WQ_val rfl gd0 (o_pickT (v := .bool true) rfl rfl rfl) rfl ?_
              refine WQ_nil ?_
              refine nrm ?_
              refine WC_cond (t := true) rfl (fun _ => ?_) (fun hx => by rw [(rfl : true = true)] at hx; cases hx)
              refine WC_seq ?_
              refine WC_region ?_
              refine WL_val gd0 ((o_assign (v := .bool false) rfl) _) rfl ?_
              refine WL_nil ?_
              refine nrm ?_
              refine WC_ret ?_
              refine rtT ?_
              refine rtB ?_
              refine rtT ?_
              refine rtT ?_
              refine rtB ?_
              refine rtT ?_
              refine rtE ?_
              exact gv1 rfl rfl h
            · rw [if_neg (of_decide_eq_false hb72)] at h
              refine WQ_val rfl (gdY (b := (decide (x70 < time54))) 76 rfl rfl hb72) (o_move (v := .slice c_a47 c_n48 c_c49) (by exact e7_55)) rfl ?_
              refine WQ_val rfl (gdY (b := (decide (x70 < time54))) 76 rfl rfl hb72) (o_move (v := .int .i64 i57) (by exact e8_56)) rfl ?_
              obtain ⟨l73, u74, h⟩ := h
              refine WQ_val rfl (gdY (b := (decide (x70 < time54))) 76 rfl rfl hb72) (o_indexAddr Try.underlying43 Try.sizeOf46 (by exact (congrArg (fun z => Value.slice z c_n48 c_c49) q64)) rfl l73 u74) rfl ?_
              refine WQ_val rfl (gdY (b := (decide (x70 < time54))) 76 rfl rfl hb72) (o_fieldAddr 2 Try.underlying46 rfl Try.sizeOf3 rfl rfl rfl) rfl ?_
              obtain ⟨x75, hc76, h⟩ := h
              refine WQ_look (fun w => w.cell? ((p63.add (i57.toNat * 3)).add 2) = some (.int .i64 x75)) rfl (gdY (b := (decide (x70 < time54))) 76 rfl rfl hb72) (fun w hc => (o_load Try.isAgg3 rfl hc)) hc76 rfl ?_
              refine WQ_val rfl (gdY (b := (decide (x70 < time54))) 76 rfl rfl hb72) (o_move (v := .slice c_a47 c_n48 c_c49) (by exact e7_55)) rfl ?_
              refine WQ_val rfl (gdY (b := (decide (x70 < time54))) 76 rfl rfl hb72) (o_move (v := .int .i64 i57) (by exact e8_56)) rfl ?_
              obtain ⟨l77, u78, h⟩ := h
              refine WQ_val rfl (gdY (b := (decide (x70 < time54))) 76 rfl rfl hb72) (o_indexAddr Try.underlying43 Try.sizeOf46 (by exact (congrArg (fun z => Value.slice z c_n48 c_c49) q64)) rfl l77 u78) rfl ?_
              refine WQ_val rfl (gdY (b := (decide (x70 < time54))) 76 rfl rfl hb72) (o_fieldAddr 1 Try.underlying46 rfl Try.sizeOf3 rfl rfl rfl) rfl ?_
              obtain ⟨x79, hc80, h⟩ := h
              refine WQ_look (fun w => w.cell? ((p63.add (i57.toNat * 3)).add 1) = some (.int .i64 x79)) rfl (gdY (b := (decide (x70 < time54))) 76 rfl rfl hb72) (fun w hc => (o_load Try.isAgg3 rfl hc)) hc80 rfl ?_
              refine WQ_val rfl (gdY (b := (decide (x70 < time54))) 76 rfl rfl hb72) (o_eql rfl rfl) rfl ?_
              refine WQ_val rfl gd0 (o_pickF (v := .bool (decide (x75 = x79))) rfl hb72 rfl) rfl ?_
              refine WQ_val rfl gd0 (o_move (v := .bool (decide (x75 = x79))) rfl) rfl ?_
              refine bsplit (decide (x75 = x79)) (fun hb81 => ?_) (fun hb81 => ?_)
              · rw [if_pos (of_decide_eq_true hb81)] at h
                refine WQ_skip rfl (gdN (b := (decide (x75 = x79))) 89 rfl rfl hb81) rfl ?_
                refine WQ_skip rfl (gdN (b := (decide (x75 = x79))) 89 rfl rfl hb81) rfl ?_
                refine WQ_skip rfl (gdN (b := (decide (x75 = x79))) 89 rfl rfl hb81) rfl ?_
                refine WQ_skip rfl (gdN (b := (decide (x75 = x79))) 89 rfl rfl hb81) rfl ?_
                refine WQ_skip rfl (gdN (b := (decide (x75 = x79))) 89 rfl rfl hb81) rfl ?_
                refine WQ_skip rfl (gdN (b := (decide (x75 = x79))) 89 rfl rfl hb81) rfl ?_
                refine WQ_skip rfl (gdN (b := (decide (x75 = x79))) 89 rfl rfl hb81) rfl ?_
                refine WQ_skip rfl (gdU 96 rfl rfl) rfl ?_
                refine WQ_skip rfl (gdU 96 rfl rfl) rfl ?_
                refine WQ_skip rfl (gdU 96 rfl rfl) rfl ?_
                refine WQ_skip rfl (gdU 96 rfl rfl) rfl ?_
                refine WQ_skip rfl (gdU 96 rfl rfl) rfl ?_
                refine WQ_skip rfl (gdU 96 rfl rfl) rfl ?_
                refine WQ_skip rfl (gdU 96 rfl rfl) rfl ?_
                refine WQ_skip rfl (gdU 96 rfl rfl) rfl ?_
                refine WQ_skip rfl (gdU 96 rfl rfl) rfl ?_
                refine WQ_skip rfl (gdU 96 rfl rfl) rfl ?_
                refine WQ_passAct rfl (gdU 96 rfl rfl) rfl (by exact ⟨⟨⟨⟨trivial, depT (by kernel_rfl)⟩, depT (by kernel_rfl)⟩, depT (by kernel_rfl)⟩, depT (by kernel_rfl)⟩) ?_
                refine WQ_skip rfl (gdU 96 rfl rfl) rfl ?_
                refine WQ_skip rfl (gdN (b := (decide (x75 = x79))) 89 rfl rfl hb81) rfl ?_
                refine WQ_val rfl gd0 (o_pickT (v := .bool true) rfl hb81 rfl) rfl ?_
                refine WQ_nil ?_
                refine nrm ?_
                refine WC_cond (t := true) rfl (fun _ => ?_) (fun hx => by rw [(rfl : true = true)] at hx; cases hx)
                refine WC_seq ?_
                refine WC_region ?_
                refine WL_val gd0 ((o_assign (v := .bool false) rfl) _) rfl ?_
                refine WL_nil ?_
                refine nrm ?_
                refine WC_ret ?_
                refine rtT ?_
                refine rtB ?_
                refine rtT ?_
                refine rtT ?_
                refine rtB ?_
                refine rtT ?_
                refine rtE ?_
                exact gv1 rfl rfl h
              · rw [if_neg (of_decide_eq_false hb81)] at h
                refine WQ_val rfl (gdY (b := (decide (x75 = x79))) 89 rfl rfl hb81) (o_move (v := .slice c_a47 c_n48 c_c49) (by exact e7_55)) rfl ?_
                refine WQ_val rfl (gdY (b := (decide (x75 = x79))) 89 rfl rfl hb81) (o_move (v := .int .i64 i57) (by exact e8_56)) rfl ?_
                obtain ⟨l82, u83, h⟩ := h
                refine WQ_val rfl (gdY (b := (decide (x75 = x79))) 89 rfl rfl hb81) (o_indexAddr Try.underlying43 Try.sizeOf46 (by exact (congrArg (fun z => Value.slice z c_n48 c_c49) q64)) rfl l82 u83) rfl ?_
                refine WQ_val rfl (gdY (b := (decide (x75 = x79))) 89 rfl rfl hb81) (o_fieldAddr 2 Try.underlying46 rfl Try.sizeOf3 rfl rfl rfl) rfl ?_
                obtain ⟨x84, hc85, h⟩ := h
                refine WQ_look (fun w => w.cell? ((p63.add (i57.toNat * 3)).add 2) = some (.int .i64 x84)) rfl (gdY (b := (decide (x75 = x79))) 89 rfl rfl hb81) (fun w hc => (o_load Try.isAgg3 rfl hc)) hc85 rfl ?_
                refine WQ_val rfl (gdY (b := (decide (x75 = x79))) 89 rfl rfl hb81) (o_neq rfl rfl) rfl ?_
                refine WQ_val rfl (gdY (b := (decide (x75 = x79))) 89 rfl rfl hb81) (o_move (v := .bool (decide (x84 ≠ 1))) rfl) rfl ?_
                refine bsplit (decide (x84 ≠ 1)) (fun hb86 => ?_) (fun hb86 => ?_)
                · rw [if_pos (of_decide_eq_true hb86)] at h
                  refine WQ_val rfl (gdY (b := (decide (x84 ≠ 1))) 96 rfl rfl hb86) (o_move (v := .slice c_a47 c_n48 c_c49) (by exact e7_55)) rfl ?_
                  refine WQ_val rfl (gdY (b := (decide (x84 ≠ 1))) 96 rfl rfl hb86) (o_move (v := .int .i64 i57) (by exact e8_56)) rfl ?_
                  obtain ⟨l87, u88, h⟩ := h
                  refine WQ_val rfl (gdY (b := (decide (x84 ≠ 1))) 96 rfl rfl hb86) (o_indexAddr Try.underlying43 Try.sizeOf46 (by exact (congrArg (fun z => Value.slice z c_n48 c_c49) q64)) rfl l87 u88) rfl ?_
                  refine WQ_val rfl (gdY (b := (decide (x84 ≠ 1))) 96 rfl rfl hb86) (o_fieldAddr 1 Try.underlying46 rfl Try.sizeOf3 rfl rfl rfl) rfl ?_
                  obtain ⟨x89, hc90, h⟩ := h
                  refine WQ_look (fun w => w.cell? ((p63.add (i57.toNat * 3)).add 1) = some (.int .i64 x89)) rfl (gdY (b := (decide (x84 ≠ 1))) 96 rfl rfl hb86) (fun w hc => (o_load Try.isAgg3 rfl hc)) hc90 rfl ?_
                  refine WQ_val rfl (gdY (b := (decide (x84 ≠ 1))) 96 rfl rfl hb86) (o_move (v := .slice c_a47 c_n48 c_c49) (by exact e7_55)) rfl ?_
                  refine WQ_val rfl (gdY (b := (decide (x84 ≠ 1))) 96 rfl rfl hb86) (o_move (v := .int .i64 i57) (by exact e8_56)) rfl ?_
                  obtain ⟨l91, u92, h⟩ := h
                  refine WQ_val rfl (gdY (b := (decide (x84 ≠ 1))) 96 rfl rfl hb86) (o_indexAddr Try.underlying43 Try.sizeOf46 (by exact (congrArg (fun z => Value.slice z c_n48 c_c49) q64)) rfl l91 u92) rfl ?_
                  refine WQ_val rfl (gdY (b := (decide (x84 ≠ 1))) 96 rfl rfl hb86) (o_fieldAddr 2 Try.underlying46 rfl Try.sizeOf3 rfl rfl rfl) rfl ?_
                  obtain ⟨x93, hc94, h⟩ := h
                  refine WQ_look (fun w => w.cell? ((p63.add (i57.toNat * 3)).add 2) = some (.int .i64 x93)) rfl (gdY (b := (decide (x84 ≠ 1))) 96 rfl rfl hb86) (fun w hc => (o_load Try.isAgg3 rfl hc)) hc94 rfl ?_
                  refine WQ_call rfl (gdY (b := (decide (x84 ≠ 1))) 96 rfl rfl hb86) (o_call Try.call13 (argCons rfl (argCons rfl argNil)) _) rfl (h.mono ?_)
                  rintro _ w95 ⟨x96, rfl, h⟩
                  refine ⟨⟨⟨⟨⟨⟨⟨⟨trivial, depT (by kernel_rfl)⟩, depT (by kernel_rfl)⟩, depT (by kernel_rfl)⟩, depT (by kernel_rfl)⟩, depT (by kernel_rfl)⟩, depT (by kernel_rfl)⟩, depT (by kernel_rfl)⟩, ?_⟩
                  refine WQ_val rfl (gdY (b := (decide (x84 ≠ 1))) 96 rfl rfl hb86) (o_not rfl) rfl ?_
                  refine WQ_val rfl (gdY (b := (decide (x75 = x79))) 89 rfl rfl hb81) (o_pickT (v := .bool (!x96)) rfl hb86 rfl) rfl ?_
                  refine WQ_val rfl gd0 (o_pickF (v := .bool (!x96)) rfl hb81 rfl) rfl ?_
                  refine WQ_nil ?_
                  refine nrm ?_
                  refine WC_cond (t := (!x96)) rfl (fun hb97 => ?_) (fun hb97 => ?_)
                  · rw [if_pos hb97] at h
                    refine WC_seq ?_
                    refine WC_region ?_
                    refine WL_val gd0 ((o_assign (v := .bool false) rfl) _) rfl ?_
                    refine WL_nil ?_
                    refine nrm ?_
                    refine WC_ret ?_
                    refine rtT ?_
                    refine rtB ?_
                    refine rtT ?_
                    refine rtT ?_
                    refine rtB ?_
                    refine rtT ?_
                    refine rtE ?_
                    exact gv1 rfl rfl h
                  · rw [if_neg (neT hb97)] at h
                    refine WC_skip ?_
                    refine nrm ?_
                    refine WC_draws [] (.look 0 (.look 1 (.look 2 (.look 3 (.look 4 (.look 5 (.look 6 (.look 7 (.look 8 (.look 9 (.look 10 (.look 11 .nil)))))))))))) Try.mixed (by kernel_rfl) ?_
                    refine WQ_val rfl gd0 (o_move (v := .slice c_a47 c_n48 c_c49) (by exact e7_55)) rfl ?_
                    refine WQ_val rfl gd0 (o_move (v := .int .i64 i57) (by exact e8_56)) rfl ?_
                    obtain ⟨l98, u99, h⟩ := h
                    refine WQ_val rfl gd0 (o_indexAddr Try.underlying43 Try.sizeOf46 (by exact (congrArg (fun z => Value.slice z c_n48 c_c49) q64)) rfl l98 u99) rfl ?_
                    refine WQ_val rfl gd0 (o_fieldAddr 2 Try.underlying46 rfl Try.sizeOf3 rfl rfl rfl) rfl ?_
                    obtain ⟨x100, hc101, h⟩ := h
                    refine WQ_look (fun w => w.cell? ((p63.add (i57.toNat * 3)).add 2) = some (.int .i64 x100)) rfl gd0 (fun w hc => (o_load Try.isAgg3 rfl hc)) hc101 rfl ?_
                    refine WQ_val rfl gd0 (o_move (v := .slice c_a47 c_n48 c_c49) (by exact e7_55)) rfl ?_
                    refine WQ_val rfl gd0 (o_move (v := .int .i64 i57) (by exact e8_56)) rfl ?_
                    obtain ⟨l102, u103, h⟩ := h
                    refine WQ_val rfl gd0 (o_indexAddr Try.underlying43 Try.sizeOf46 (by exact (congrArg (fun z => Value.slice z c_n48 c_c49) q64)) rfl l102 u103) rfl ?_
                    refine WQ_val rfl gd0 (o_fieldAddr0 Try.underlying46 rfl Try.sizeOf3 rfl rfl rfl) rfl ?_
                    obtain ⟨x104, hc105, h⟩ := h
                    refine WQ_look (fun w => w.cell? (p63.add (i57.toNat * 3)) = some (.int .i64 x104)) rfl gd0 (fun w hc => (o_load Try.isAgg3 rfl hc)) hc105 rfl ?_
                    refine WQ_val rfl gd0 (o_assign (v := .int .i64 x100) rfl) rfl ?_
                    refine WQ_val rfl gd0 (o_assign (v := .int .i64 x104) rfl) rfl ?_
                    refine WQ_nil ?_
                    refine nrmB ?_
                    refine nrm ?_
                    refine WC_region ?_
                    refine WL_val gd0 ((o_move (v := .int .i64 i57) (by exact e8_56)) _) rfl ?_
                    refine WL_val gd0 ((o_add rfl rfl) _) rfl ?_
                    refine WL_val gd0 ((o_assign (v := .int .i64 (IntKind.i64.wrap (i57 + 1))) rfl) _) rfl ?_
                    refine WL_nil ?_
                    refine nrm ?_
                    obtain ⟨m59, hm59, h⟩ := h
                    exact ⟨m59, hm59, _, _, _, rfl, rfl, rfl, e3_50, e7_55, h⟩
                · rw [if_neg (of_decide_eq_false hb86)] at h
                  refine WQ_skip rfl (gdN (b := (decide (x84 ≠ 1))) 96 rfl rfl hb86) rfl ?_
                  refine WQ_skip rfl (gdN (b := (decide (x84 ≠ 1))) 96 rfl rfl hb86) rfl ?_
                  refine WQ_skip rfl (gdN (b := (decide (x84 ≠ 1))) 96 rfl rfl hb86) rfl ?_
                  refine WQ_skip rfl (gdN (b := (decide (x84 ≠ 1))) 96 rfl rfl hb86) rfl ?_
                  refine WQ_skip rfl (gdN (b := (decide (x84 ≠ 1))) 96 rfl rfl hb86) rfl ?_
                  refine WQ_skip rfl (gdN (b := (decide (x84 ≠ 1))) 96 rfl rfl hb86) rfl ?_
                  refine WQ_skip rfl (gdN (b := (decide (x84 ≠ 1))) 96 rfl rfl hb86) rfl ?_
                  refine WQ_skip rfl (gdN (b := (decide (x84 ≠ 1))) 96 rfl rfl hb86) rfl ?_
                  refine WQ_skip rfl (gdN (b := (decide (x84 ≠ 1))) 96 rfl rfl hb86) rfl ?_
                  refine WQ_skip rfl (gdN (b := (decide (x84 ≠ 1))) 96 rfl rfl hb86) rfl ?_
                  refine WQ_passAct rfl (gdN (b := (decide (x84 ≠ 1))) 96 rfl rfl hb86) rfl (by exact ⟨⟨⟨⟨⟨trivial, depT (by kernel_rfl)⟩, depT (by kernel_rfl)⟩, depT (by kernel_rfl)⟩, depT (by kernel_rfl)⟩, depT (by kernel_rfl)⟩) ?_
                  refine WQ_skip rfl (gdN (b := (decide (x84 ≠ 1))) 96 rfl rfl hb86) rfl ?_
                  refine WQ_val rfl (gdY (b := (decide (x75 = x79))) 89 rfl rfl hb81) (o_pickF (v := .bool false) rfl hb86 rfl) rfl ?_
                  refine WQ_val rfl gd0 (o_pickF (v := .bool false) rfl hb81 rfl) rfl ?_
                  refine WQ_nil ?_
                  refine nrm ?_
                  refine WC_cond (t := false) rfl (fun hx => by rw [(rfl : false = false)] at hx; cases hx) (fun _ => ?_)
                  refine WC_skip ?_
                  refine nrm ?_
                  refine WC_draws [] (.look 0 (.look 1 (.look 2 (.look 3 (.look 4 (.look 5 (.look 6 (.look 7 (.look 8 (.look 9 (.look 10 (.look 11 .nil)))))))))))) Try.mixed (by kernel_rfl) ?_
                  refine WQ_val rfl gd0 (o_move (v := .slice c_a47 c_n48 c_c49) (by exact e7_55)) rfl ?_
                  refine WQ_val rfl gd0 (o_move (v := .int .i64 i57) (by exact e8_56)) rfl ?_
                  obtain ⟨l106, u107, h⟩ := h
                  refine WQ_val rfl gd0 (o_indexAddr Try.underlying43 Try.sizeOf46 (by exact (congrArg (fun z => Value.slice z c_n48 c_c49) q64)) rfl l106 u107) rfl ?_
                  refine WQ_val rfl gd0 (o_fieldAddr 2 Try.underlying46 rfl Try.sizeOf3 rfl rfl rfl) rfl ?_
                  obtain ⟨x108, hc109, h⟩ := h
                  refine WQ_look (fun w => w.cell? ((p63.add (i57.toNat * 3)).add 2) = some (.int .i64 x108)) rfl gd0 (fun w hc => (o_load Try.isAgg3 rfl hc)) hc109 rfl ?_
                  refine WQ_val rfl gd0 (o_move (v := .slice c_a47 c_n48 c_c49) (by exact e7_55)) rfl ?_
                  refine WQ_val rfl gd0 (o_move (v := .int .i64 i57) (by exact e8_56)) rfl ?_
                  obtain ⟨l110, u111, h⟩ := h
                  refine WQ_val rfl gd0 (o_indexAddr Try.underlying43 Try.sizeOf46 (by exact (congrArg (fun z => Value.slice z c_n48 c_c49) q64)) rfl l110 u111) rfl ?_
                  refine WQ_val rfl gd0 (o_fieldAddr0 Try.underlying46 rfl Try.sizeOf3 rfl rfl rfl) rfl ?_
                  obtain ⟨x112, hc113, h⟩ := h
                  refine WQ_look (fun w => w.cell? (p63.add (i57.toNat * 3)) = some (.int .i64 x112)) rfl gd0 (fun w hc => (o_load Try.isAgg3 rfl hc)) hc113 rfl ?_
                  refine WQ_val rfl gd0 (o_assign (v := .int .i64 x108) rfl) rfl ?_
                  refine WQ_val rfl gd0 (o_assign (v := .int .i64 x112) rfl) rfl ?_
                  refine WQ_nil ?_
                  refine nrmB ?_
                  refine nrm ?_
                  refine WC_region ?_
                  refine WL_val gd0 ((o_move (v := .int .i64 i57) (by exact e8_56)) _) rfl ?_
                  refine WL_val gd0 ((o_add rfl rfl) _) rfl ?_
                  refine WL_val gd0 ((o_assign (v := .int .i64 (IntKind.i64.wrap (i57 + 1))) rfl) _) rfl ?_
                  refine WL_nil ?_
                  refine nrm ?_
                  obtain ⟨m59, hm59, h⟩ := h
                  exact ⟨m59, hm59, _, _, _, rfl, rfl, rfl, e3_50, e7_55, h⟩
        · rw [if_neg (of_decide_eq_false hb60)] at h
          refine WC_exit ?_
          refine exT ?_
          refine exT ?_
          refine exB ?_
          refine nrm ?_
          refine WC_seq ?_
          refine WC_region ?_
          refine WL_val gd0 ((o_move (v := .pointer m6) (by exact e3_50)) _) rfl ?_
          refine WL_call gd0 (o_call Try.call17 (argCons rfl argNil) _) rfl (h.mono ?_)
          rintro _ w114 ⟨x115, rfl, h⟩
          refine WL_val gd0 ((o_move (v := .int .i64 last52) (by exact e5_51)) _) rfl ?_
          refine WL_val gd0 ((o_eql rfl rfl) _) rfl ?_
          refine WL_val gd0 ((o_move (v := .bool (decide (x115 = last52))) rfl) _) rfl ?_
          refine bsplit (decide (x115 = last52)) (fun hb116 => ?_) (fun hb116 => ?_)
          · rw [if_pos (of_decide_eq_true hb116)] at h
            refine WL_call (gdY (b := (decide (x115 = last52))) 125 rfl rfl hb116) (o_call Try.call10 argNil _) rfl (h.mono ?_)
            rintro _ w117 ⟨x118, rfl, h⟩
            refine WL_val gd0 ((o_pickT (v := .bool x118) rfl hb116 rfl) _) rfl ?_
            refine WL_val gd0 ((o_assign (v := .bool x118) rfl) _) rfl ?_
            refine WL_nil ?_
            refine nrm ?_
            refine WC_ret ?_
            refine rtE ?_
            exact gv1 rfl rfl h
          · rw [if_neg (of_decide_eq_false hb116)] at h
            refine WL_skip (gdN (b := (decide (x115 = last52))) 125 rfl rfl hb116) rfl ?_
            refine WL_val gd0 ((o_pickF (v := .bool false) rfl hb116 rfl) _) rfl ?_
            refine WL_val gd0 ((o_assign (v := .bool false) rfl) _) rfl ?_
            refine WL_nil ?_
            refine nrm ?_
            refine WC_ret ?_
            refine rtE ?_
            exact gv1 rfl rfl h

def F8_b3 (l_n2 : Nat) (l_a1 : Option Addr) (m39 : Option Addr) (p49 : Addr) (c72 : Option Addr) (p79 : Addr) (i90 : Int) (w91 : World) (k : Value → World → Prop) (nx91 : Int → World → Prop) : Prop :=
  if i90 < (l_n2 : Int) then
  if (Int.tmod i90 2) = 0 then
    ∃ (p97 : Addr), l_a1 = some p97 ∧ (0 : Int) ≤ i90 ∧ i90 < (l_n2 : Int) ∧ ∃ (x99 : Bool) (x100 x101 : Int), Cells w91 (p97.add (i90.toNat * 3)) 0 [.bool x99, .int .i64 x100, .int .i64 x101] ∧ Does Try.prog 11 #[.pointer m39, .pointer (some p49), .agg #[.bool x99, .int .i64 x100, .int .i64 x101]] w91 (fun v w103 => ∃ (x104 : Bool), v = .bool x104 ∧ if (!x104) = true then
      k (.bool false) w103
    else
      if (Int.tmod i90 2) = 1 then
        (0 : Int) ≤ i90 ∧ i90 < (l_n2 : Int) ∧ ∃ (x109 : Bool) (x110 x111 : Int), Cells w103 (p97.add (i90.toNat * 3)) 0 [.bool x109, .int .i64 x110, .int .i64 x111] ∧ Does Try.prog 11 #[.pointer c72, .pointer (some p79), .agg #[.bool x109, .int .i64 x110, .int .i64 x111]] w103 (fun v w113 => ∃ (x114 : Bool), v = .bool x114 ∧ if (!x114) = true then
          k (.bool false) w113
        else
          nx91 (IntKind.i64.wrap (i90 + 1)) w113)
      else
        nx91 (IntKind.i64.wrap (i90 + 1)) w103)
  else
    if (Int.tmod i90 2) = 1 then
      ∃ (p119 : Addr), l_a1 = some p119 ∧ (0 : Int) ≤ i90 ∧ i90 < (l_n2 : Int) ∧ ∃ (x121 : Bool) (x122 x123 : Int), Cells w91 (p119.add (i90.toNat * 3)) 0 [.bool x121, .int .i64 x122, .int .i64 x123] ∧ Does Try.prog 11 #[.pointer c72, .pointer (some p79), .agg #[.bool x121, .int .i64 x122, .int .i64 x123]] w91 (fun v w125 => ∃ (x126 : Bool), v = .bool x126 ∧ if (!x126) = true then
        k (.bool false) w125
      else
        nx91 (IntKind.i64.wrap (i90 + 1)) w125)
    else
      nx91 (IntKind.i64.wrap (i90 + 1)) w91
else
  ∃ (x128 x129 : Int) (x_a130 : Option Addr) (x_n131 x_c132 : Nat), Cells w91 p49 0 [.int .i64 x128, .int .i64 x129, .slice x_a130 x_n131 x_c132] ∧ Does Try.prog 12 #[.pointer m39, .agg #[.int .i64 x128, .int .i64 x129, .slice x_a130 x_n131 x_c132]] w91 (fun v w134 => ∃ (x135 : Bool), v = .bool x135 ∧ if x135 = true then
    ∃ (x137 x138 : Int) (x_a139 : Option Addr) (x_n140 x_c141 : Nat), Cells w134 p79 0 [.int .i64 x137, .int .i64 x138, .slice x_a139 x_n140 x_c141] ∧ Does Try.prog 12 #[.pointer c72, .agg #[.int .i64 x137, .int .i64 x138, .slice x_a139 x_n140 x_c141]] w134 (fun v w143 => ∃ (x144 : Bool), v = .bool x144 ∧ if x144 = true then
      Does Try.prog 10 #[] w143 (fun v w146 => ∃ (x147 : Bool), v = .bool x147 ∧ k (.bool x147) w146)
    else
      k (.bool false) w143)
  else
    k (.bool false) w134)
def F8_b2 (l_n2 : Nat) (l_a1 : Option Addr) (m39 : Option Addr) (p49 : Addr) (i56 : Int) (w57 : World) (k : Value → World → Prop) (nx57 : Int → World → Prop) : Prop :=
  if i56 < (IntKind.i64.wrap (Int.tdiv (l_n2 : Int) 2)) then
  ∃ (p62 : Addr), l_a1 = some p62 ∧ (0 : Int) ≤ i56 ∧ i56 < (l_n2 : Int) ∧ ∃ (x64 : Bool) (x65 x66 : Int), Cells w57 (p62.add (i56.toNat * 3)) 0 [.bool x64, .int .i64 x65, .int .i64 x66] ∧ Does Try.prog 11 #[.pointer m39, .pointer (some p49), .agg #[.bool x64, .int .i64 x65, .int .i64 x66]] w57 (fun v w68 => ∃ (x69 : Bool), v = .bool x69 ∧ if (!x69) = true then
    k (.bool false) w68
  else
    nx57 (IntKind.i64.wrap (i56 + 1)) w68)
else
  Does Try.prog 19 #[.pointer m39] w57 (fun v w71 => ∃ (c72 : Option Addr), v = .pointer c72 ∧ ∃ (x73 x74 : Int) (x_a75 : Option Addr) (x_n76 x_c77 : Nat), Cells w71 p49 0 [.int .i64 x73, .int .i64 x74, .slice x_a75 x_n76 x_c77] ∧ New w71 28 [.int .i64 0, .int .i64 0, .slice none 0 0] (fun p79 w80 => PutAll w80 p79 [.int .i64 x73, .int .i64 x74, .slice x_a75 x_n76 x_c77] (fun w81 => if (c72).isNone = true then
    k (.bool false) w81
  else
    LoopP (fun (s : Int) w' nx' => F8_b3 l_n2 l_a1 m39 p49 c72 p79 s w' k (fun x0 w => nx' x0 w)) (IntKind.i64.wrap (Int.tdiv (l_n2 : Int) 2)) w81)))
def F8_j1 (m39 : Option Addr) (l_n2 : Nat) (l_a1 : Option Addr) (t43 : Bool) (w44 : World) (k : Value → World → Prop) : Prop :=
  if t43 = true then
  if (!(m39).isNone) = true then
    Does Try.prog 10 #[] w44 (fun v w47 => ∃ (x48 : Bool), v = .bool x48 ∧ k (.bool x48) w47)
  else
    k (.bool false) w44
else
  New w44 28 [.int .i64 0, .int .i64 0, .slice none 0 0] (fun p49 w50 => LoopP (fun (s : Int) w' nx' => F8_b2 l_n2 l_a1 m39 p49 s w' k (fun x0 w => nx' x0 w)) 0 w50)
/-- spacecraft spacecraftlaw45.ModeClones -/
def F8 (l_a1 : Option Addr) (l_n2 : Nat) (l_c3 : Nat) (w4 : World) (k : Value → World → Prop) : Prop :=
  New w4 48 [.bool false, .int .i64 0, .int .i64 0, .slice none 0 0] (fun p5 w6 => Does Try.prog 16 #[.pointer none, .int .i64 1, .int .i64 1] w6 (fun v w7 => ∃ (x8 : Int), v = .int .i64 x8 ∧ if x8 ≠ 2 then
  k (.bool false) w7
else
  Does Try.prog 16 #[.pointer (some p5), .int .i64 1, .int .i64 1] w7 (fun v w10 => ∃ (x11 : Int), v = .int .i64 x11 ∧ if x11 ≠ 2 then
    k (.bool false) w10
  else
    Does Try.prog 15 #[.pointer none, .int .i64 1] w10 (fun v w13 => ∃ (x14 : Int), v = .int .i64 x14 ∧ if x14 ≠ 2 then
      k (.bool false) w13
    else
      Does Try.prog 15 #[.pointer (some p5), .int .i64 1] w13 (fun v w16 => ∃ (x17 : Int), v = .int .i64 x17 ∧ if x17 ≠ 2 then
        k (.bool false) w16
      else
        Does Try.prog 17 #[.pointer none] w16 (fun v w19 => ∃ (x20 : Int), v = .int .i64 x20 ∧ Does Try.prog 17 #[.pointer (some p5)] w19 (fun v w21 => ∃ (x22 : Int), v = .int .i64 x22 ∧ Does Try.prog 18 #[.pointer none] w21 (fun v w23 => ∃ (x_a24 : Option Addr) (x_n25 x_c26 : Nat), v = .slice x_a24 x_n25 x_c26 ∧ Does Try.prog 18 #[.pointer (some p5)] w23 (fun v w27 => ∃ (x_a28 : Option Addr) (x_n29 x_c30 : Nat), v = .slice x_a28 x_n29 x_c30 ∧ if (IntKind.i64.wrap ((IntKind.i64.wrap ((IntKind.i64.wrap (x20 + x22)) + (x_n25 : Int))) + (x_n29 : Int))) ≠ 0 then
          k (.bool false) w27
        else
          Does Try.prog 19 #[.pointer none] w27 (fun v w32 => ∃ (x33 : Option Addr), v = .pointer x33 ∧ if (!(x33).isNone) = true then
            k (.bool false) w32
          else
            Does Try.prog 19 #[.pointer (some p5)] w32 (fun v w35 => ∃ (x36 : Option Addr), v = .pointer x36 ∧ if (!(x36).isNone) = true then
              k (.bool false) w35
            else
              Does Try.prog 9 #[] w35 (fun v w38 => ∃ (m39 : Option Addr), v = .pointer m39 ∧ if 60 < (l_n2 : Int) then
                F8_j1 m39 l_n2 l_a1 true w38 k
              else
                F8_j1 m39 l_n2 l_a1 ((m39).isNone) w38 k))))))))))))
set_option maxRecDepth 100000 in
set_option maxHeartbeats 2000000 in
theorem w8 (l_a1 : Option Addr) (l_n2 : Nat) (l_c3 : Nat) (w4 : World) (k : Value → World → Prop) (h : F8 l_a1 l_n2 l_c3 w4 k) : Does Try.prog 8 #[.slice l_a1 l_n2 l_c3] w4 k := by
  refine enter 128 Try.func8 rfl rfl rfl ?_
  intro ρ hρ
  have e0 := hρ 0 _ rfl
  unfold F8 at h
  refine WC_seq ?_
  refine WC_region ?_
  refine WL_val gd0 ((o_assign (v := .bool false) rfl) _) rfl ?_
  refine WL_nil ?_
  refine nrm ?_
  refine WC_seq ?_
  refine WC_region ?_
  refine WL_val gd0 ((o_assign (v := .pointer none) rfl) _) rfl ?_
  refine WL_nil ?_
  refine nrm ?_
  refine WC_seq ?_
  refine WC_region ?_
  have h := New.out h
  refine WL_val gd0 (o_alloc (z := .agg #[.bool false, .int .i64 0, .int .i64 0, .slice none 0 0]) (cs := [.bool false, .int .i64 0, .int .i64 0, .slice none 0 0]) Try.zeroValue48 rfl) rfl ?_
  generalize hp5 : fresh w4 = p5 at h ⊢
  generalize hw6 : push w4 48 [.bool false, .int .i64 0, .int .i64 0, .slice none 0 0] = w6 at h ⊢
  try dsimp only at h
  refine WL_nil ?_
  refine nrm ?_
  refine WC_seq ?_
  refine WC_seq ?_
  refine WC_region ?_
  refine WL_val gd0 ((o_move (v := .pointer none) rfl) _) rfl ?_
  refine WL_call gd0 (o_call Try.call16 (argCons rfl (argCons rfl (argCons rfl argNil))) _) rfl (h.mono ?_)
  rintro _ w7 ⟨x8, rfl, h⟩
  refine WL_val gd0 ((o_neq rfl rfl) _) rfl ?_
  refine WL_val gd0 ((o_move (v := .bool (decide (x8 ≠ 2))) rfl) _) rfl ?_
  refine bsplit (decide (x8 ≠ 2)) (fun hb9 => ?_) (fun hb9 => ?_)
  · rw [if_pos (of_decide_eq_true hb9)] at h
    refine WL_skip (gdN (b := (decide (x8 ≠ 2))) 15 rfl rfl hb9) rfl ?_
    refine WL_skip (gdN (b := (decide (x8 ≠ 2))) 15 rfl rfl hb9) rfl ?_
    refine WL_val gd0 ((o_pickT (v := .bool true) rfl hb9 rfl) _) rfl ?_
    refine WL_val gd0 ((o_move (v := .bool true) rfl) _) rfl ?_
    refine WL_skip (gdN (b := true) 19 rfl rfl rfl) rfl ?_
    refine WL_skip (gdN (b := true) 19 rfl rfl rfl) rfl ?_
    refine WL_skip (gdN (b := true) 19 rfl rfl rfl) rfl ?_
    refine WL_val gd0 ((o_pickT (v := .bool true) rfl rfl rfl) _) rfl ?_
    refine WL_val gd0 ((o_move (v := .bool true) rfl) _) rfl ?_
    refine WL_skip (gdN (b := true) 24 rfl rfl rfl) rfl ?_
    refine WL_skip (gdN (b := true) 24 rfl rfl rfl) rfl ?_
    refine WL_val gd0 ((o_pickT (v := .bool true) rfl rfl rfl) _) rfl ?_
    refine WL_val gd0 ((o_move (v := .bool true) rfl) _) rfl ?_
    refine WL_skip (gdN (b := true) 28 rfl rfl rfl) rfl ?_
    refine WL_skip (gdN (b := true) 28 rfl rfl rfl) rfl ?_
    refine WL_skip (gdN (b := true) 28 rfl rfl rfl) rfl ?_
    refine WL_skip (gdN (b := true) 28 rfl rfl rfl) rfl ?_
    refine WL_skip (gdN (b := true) 28 rfl rfl rfl) rfl ?_
    refine WL_skip (gdN (b := true) 28 rfl rfl rfl) rfl ?_
    refine WL_skip (gdN (b := true) 28 rfl rfl rfl) rfl ?_
    refine WL_skip (gdN (b := true) 28 rfl rfl rfl) rfl ?_
    refine WL_skip (gdN (b := true) 28 rfl rfl rfl) rfl ?_
    refine WL_skip (gdN (b := true) 28 rfl rfl rfl) rfl ?_
    refine WL_skip (gdN (b := true) 28 rfl rfl rfl) rfl ?_
    refine WL_skip (gdN (b := true) 28 rfl rfl rfl) rfl ?_
    refine WL_val gd0 ((o_pickT (v := .bool true) rfl rfl rfl) _) rfl ?_
    refine WL_val gd0 ((o_move (v := .bool true) rfl) _) rfl ?_
    refine WL_skip (gdN (b := true) 42 rfl rfl rfl) rfl ?_
    refine WL_skip (gdN (b := true) 42 rfl rfl rfl) rfl ?_
    refine WL_skip (gdN (b := true) 42 rfl rfl rfl) rfl ?_
    refine WL_val gd0 ((o_pickT (v := .bool true) rfl rfl rfl) _) rfl ?_
    refine WL_val gd0 ((o_move (v := .bool true) rfl) _) rfl ?_
    refine WL_skip (gdN (b := true) 47 rfl rfl rfl) rfl ?_
    refine WL_skip (gdN (b := true) 47 rfl rfl rfl) rfl ?_
    refine WL_val gd0 ((o_pickT (v := .bool true) rfl rfl rfl) _) rfl ?_
    refine WL_nil ?_
    refine nrm ?_
    refine WC_cond (t := true) rfl (fun _ => ?_) (fun hx => by rw [(rfl : true = true)] at hx; cases hx)
    refine WC_seq ?_
    refine WC_region ?_
    refine WL_val gd0 ((o_assign (v := .bool false) rfl) _) rfl ?_
    refine WL_nil ?_
    refine nrm ?_
    refine WC_ret ?_
    refine rtT ?_
    refine rtE ?_
    exact gv1 rfl rfl h
  · rw [if_neg (of_decide_eq_false hb9)] at h
    refine WL_call (gdY (b := (decide (x8 ≠ 2))) 15 rfl rfl hb9) (o_call Try.call16 (argCons rfl (argCons rfl (argCons rfl argNil))) _) rfl (h.mono ?_)
    rintro _ w10 ⟨x11, rfl, h⟩
    refine WL_val (gdY (b := (decide (x8 ≠ 2))) 15 rfl rfl hb9) ((o_neq rfl rfl) _) rfl ?_
    refine WL_val gd0 ((o_pickF (v := .bool (decide (x11 ≠ 2))) rfl hb9 rfl) _) rfl ?_
    refine WL_val gd0 ((o_move (v := .bool (decide (x11 ≠ 2))) rfl) _) rfl ?_
    refine bsplit (decide (x11 ≠ 2)) (fun hb12 => ?_) (fun hb12 => ?_)
    · rw [if_pos (of_decide_eq_true hb12)] at h
      refine WL_skip (gdN (b := (decide (x11 ≠ 2))) 19 rfl rfl hb12) rfl ?_
      refine WL_skip (gdN (b := (decide (x11 ≠ 2))) 19 rfl rfl hb12) rfl ?_
      refine WL_skip (gdN (b := (decide (x11 ≠ 2))) 19 rfl rfl hb12) rfl ?_
      refine WL_val gd0 ((o_pickT (v := .bool true) rfl hb12 rfl) _) rfl ?_
      refine WL_val gd0 ((o_move (v := .bool true) rfl) _) rfl ?_
      refine WL_skip (gdN (b := true) 24 rfl rfl rfl) rfl ?_
      refine WL_skip (gdN (b := true) 24 rfl rfl rfl) rfl ?_
      refine WL_val gd0 ((o_pickT (v := .bool true) rfl rfl rfl) _) rfl ?_
      refine WL_val gd0 ((o_move (v := .bool true) rfl) _) rfl ?_
      refine WL_skip (gdN (b := true) 28 rfl rfl rfl) rfl ?_
      refine WL_skip (gdN (b := true) 28 rfl rfl rfl) rfl ?_
      refine WL_skip (gdN (b := true) 28 rfl rfl rfl) rfl ?_
      refine WL_skip (gdN (b := true) 28 rfl rfl rfl) rfl ?_
      refine WL_skip (gdN (b := true) 28 rfl rfl rfl) rfl ?_
      refine WL_skip (gdN (b := true) 28 rfl rfl rfl) rfl ?_
      refine WL_skip (gdN (b := true) 28 rfl rfl rfl) rfl ?_
      refine WL_skip (gdN (b := true) 28 rfl rfl rfl) rfl ?_
      refine WL_skip (gdN (b := true) 28 rfl rfl rfl) rfl ?_
      refine WL_skip (gdN (b := true) 28 rfl rfl rfl) rfl ?_
      refine WL_skip (gdN (b := true) 28 rfl rfl rfl) rfl ?_
      refine WL_skip (gdN (b := true) 28 rfl rfl rfl) rfl ?_
      refine WL_val gd0 ((o_pickT (v := .bool true) rfl rfl rfl) _) rfl ?_
      refine WL_val gd0 ((o_move (v := .bool true) rfl) _) rfl ?_
      refine WL_skip (gdN (b := true) 42 rfl rfl rfl) rfl ?_
      refine WL_skip (gdN (b := true) 42 rfl rfl rfl) rfl ?_
      refine WL_skip (gdN (b := true) 42 rfl rfl rfl) rfl ?_
      refine WL_val gd0 ((o_pickT (v := .bool true) rfl rfl rfl) _) rfl ?_
      refine WL_val gd0 ((o_move (v := .bool true) rfl) _) rfl ?_
      refine WL_skip (gdN (b := true) 47 rfl rfl rfl) rfl ?_
      refine WL_skip (gdN (b := true) 47 rfl rfl rfl) rfl ?_
      refine WL_val gd0 ((o_pickT (v := .bool true) rfl rfl rfl) _) rfl ?_
      refine WL_nil ?_
      refine nrm ?_
      refine WC_cond (t := true) rfl (fun _ => ?_) (fun hx => by rw [(rfl : true = true)] at hx; cases hx)
      refine WC_seq ?_
      refine WC_region ?_
      refine WL_val gd0 ((o_assign (v := .bool false) rfl) _) rfl ?_
      refine WL_nil ?_
      refine nrm ?_
      refine WC_ret ?_
      refine rtT ?_
      refine rtE ?_
      exact gv1 rfl rfl h
    · rw [if_neg (of_decide_eq_false hb12)] at h
      refine WL_val (gdY (b := (decide (x11 ≠ 2))) 19 rfl rfl hb12) ((o_move (v := .pointer none) rfl) _) rfl ?_
      refine WL_call (gdY (b := (decide (x11 ≠ 2))) 19 rfl rfl hb12) (o_call Try.call15 (argCons rfl (argCons rfl argNil)) _) rfl (h.mono ?_)
      rintro _ w13 ⟨x14, rfl, h⟩
      refine WL_val (gdY (b := (decide (x11 ≠ 2))) 19 rfl rfl hb12) ((o_neq rfl rfl) _) rfl ?_
      refine WL_val gd0 ((o_pickF (v := .bool (decide (x14 ≠ 2))) rfl hb12 rfl) _) rfl ?_
      refine WL_val gd0 ((o_move (v := .bool (decide (x14 ≠ 2))) rfl) _) rfl ?_
      refine bsplit (decide (x14 ≠ 2)) (fun hb15 => ?_) (fun hb15 => ?_)
      · rw [if_pos (of_decide_eq_true hb15)] at h
        refine WL_skip (gdN (b := (decide (x14 ≠ 2))) 24 rfl rfl hb15) rfl ?_
        refine WL_skip (gdN (b := (decide (x14 ≠ 2))) 24 rfl rfl hb15) rfl ?_
        refine WL_val gd0 ((o_pickT (v := .bool true) rfl hb15 rfl) _) rfl ?_
        refine WL_val gd0 ((o_move (v := .bool true) rfl) _) rfl ?_
        refine WL_skip (gdN (b := true) 28 rfl rfl rfl) rfl ?_
        refine WL_skip (gdN (b := true) 28 rfl rfl rfl) rfl ?_
        refine WL_skip (gdN (b := true) 28 rfl rfl rfl) rfl ?_
        refine WL_skip (gdN (b := true) 28 rfl rfl rfl) rfl ?_
        refine WL_skip (gdN (b := true) 28 rfl rfl rfl) rfl ?_
        refine WL_skip (gdN (b := true) 28 rfl rfl rfl) rfl ?_
        refine WL_skip (gdN (b := true) 28 rfl rfl rfl) rfl ?_
        refine WL_skip (gdN (b := true) 28 rfl rfl rfl) rfl ?_
        refine WL_skip (gdN (b := true) 28 rfl rfl rfl) rfl ?_
        refine WL_skip (gdN (b := true) 28 rfl rfl rfl) rfl ?_
        refine WL_skip (gdN (b := true) 28 rfl rfl rfl) rfl ?_
        refine WL_skip (gdN (b := true) 28 rfl rfl rfl) rfl ?_
        refine WL_val gd0 ((o_pickT (v := .bool true) rfl rfl rfl) _) rfl ?_
        refine WL_val gd0 ((o_move (v := .bool true) rfl) _) rfl ?_
        refine WL_skip (gdN (b := true) 42 rfl rfl rfl) rfl ?_
        refine WL_skip (gdN (b := true) 42 rfl rfl rfl) rfl ?_
        refine WL_skip (gdN (b := true) 42 rfl rfl rfl) rfl ?_
        refine WL_val gd0 ((o_pickT (v := .bool true) rfl rfl rfl) _) rfl ?_
        refine WL_val gd0 ((o_move (v := .bool true) rfl) _) rfl ?_
        refine WL_skip (gdN (b := true) 47 rfl rfl rfl) rfl ?_
        refine WL_skip (gdN (b := true) 47 rfl rfl rfl) rfl ?_
        refine WL_val gd0 ((o_pickT (v := .bool true) rfl rfl rfl) _) rfl ?_
        refine WL_nil ?_
        refine nrm ?_
        refine WC_cond (t := true) rfl (fun _ => ?_) (fun hx => by rw [(rfl : true = true)] at hx; cases hx)
        refine WC_seq ?_
        refine WC_region ?_
        refine WL_val gd0 ((o_assign (v := .bool false) rfl) _) rfl ?_
        refine WL_nil ?_
        refine nrm ?_
        refine WC_ret ?_
        refine rtT ?_
        refine rtE ?_
        exact gv1 rfl rfl h
      · rw [if_neg (of_decide_eq_false hb15)] at h
        refine WL_call (gdY (b := (decide (x14 ≠ 2))) 24 rfl rfl hb15) (o_call Try.call15 (argCons rfl (argCons rfl argNil)) _) rfl (h.mono ?_)
        rintro _ w16 ⟨x17, rfl, h⟩
        refine WL_val (gdY (b := (decide (x14 ≠ 2))) 24 rfl rfl hb15) ((o_neq rfl rfl) _) rfl ?_
        refine WL_val gd0 ((o_pickF (v := .bool (decide (x17 ≠ 2))) rfl hb15 rfl) _) rfl ?_
        refine WL_val gd0 ((o_move (v := .bool (decide (x17 ≠ 2))) rfl) _) rfl ?_
        refine bsplit (decide (x17 ≠ 2)) (fun hb18 => ?_) (fun hb18 => ?_)
        · rw [if_pos (of_decide_eq_true hb18)] at h
          refine WL_skip (gdN (b := (decide (x17 ≠ 2))) 28 rfl rfl hb18) rfl ?_
          refine WL_skip (gdN (b := (decide (x17 ≠ 2))) 28 rfl rfl hb18) rfl ?_
          refine WL_skip (gdN (b := (decide (x17 ≠ 2))) 28 rfl rfl hb18) rfl ?_
          refine WL_skip (gdN (b := (decide (x17 ≠ 2))) 28 rfl rfl hb18) rfl ?_
          refine WL_skip (gdN (b := (decide (x17 ≠ 2))) 28 rfl rfl hb18) rfl ?_
          refine WL_skip (gdN (b := (decide (x17 ≠ 2))) 28 rfl rfl hb18) rfl ?_
          refine WL_skip (gdN (b := (decide (x17 ≠ 2))) 28 rfl rfl hb18) rfl ?_
          refine WL_skip (gdN (b := (decide (x17 ≠ 2))) 28 rfl rfl hb18) rfl ?_
          refine WL_skip (gdN (b := (decide (x17 ≠ 2))) 28 rfl rfl hb18) rfl ?_
          refine WL_skip (gdN (b := (decide (x17 ≠ 2))) 28 rfl rfl hb18) rfl ?_
          refine WL_skip (gdN (b := (decide (x17 ≠ 2))) 28 rfl rfl hb18) rfl ?_
          refine WL_skip (gdN (b := (decide (x17 ≠ 2))) 28 rfl rfl hb18) rfl ?_
          refine WL_val gd0 ((o_pickT (v := .bool true) rfl hb18 rfl) _) rfl ?_
          refine WL_val gd0 ((o_move (v := .bool true) rfl) _) rfl ?_
          refine WL_skip (gdN (b := true) 42 rfl rfl rfl) rfl ?_
          refine WL_skip (gdN (b := true) 42 rfl rfl rfl) rfl ?_
          refine WL_skip (gdN (b := true) 42 rfl rfl rfl) rfl ?_
          refine WL_val gd0 ((o_pickT (v := .bool true) rfl rfl rfl) _) rfl ?_
          refine WL_val gd0 ((o_move (v := .bool true) rfl) _) rfl ?_
          refine WL_skip (gdN (b := true) 47 rfl rfl rfl) rfl ?_
          refine WL_skip (gdN (b := true) 47 rfl rfl rfl) rfl ?_
          refine WL_val gd0 ((o_pickT (v := .bool true) rfl rfl rfl) _) rfl ?_
          refine WL_nil ?_
          refine nrm ?_
          refine WC_cond (t := true) rfl (fun _ => ?_) (fun hx => by rw [(rfl : true = true)] at hx; cases hx)
          refine WC_seq ?_
          refine WC_region ?_
          refine WL_val gd0 ((o_assign (v := .bool false) rfl) _) rfl ?_
          refine WL_nil ?_
          refine nrm ?_
          refine WC_ret ?_
          refine rtT ?_
          refine rtE ?_
          exact gv1 rfl rfl h
        · rw [if_neg (of_decide_eq_false hb18)] at h
          refine WL_val (gdY (b := (decide (x17 ≠ 2))) 28 rfl rfl hb18) ((o_move (v := .pointer none) rfl) _) rfl ?_
          refine WL_call (gdY (b := (decide (x17 ≠ 2))) 28 rfl rfl hb18) (o_call Try.call17 (argCons rfl argNil) _) rfl (h.mono ?_)
          rintro _ w19 ⟨x20, rfl, h⟩
          refine WL_call (gdY (b := (decide (x17 ≠ 2))) 28 rfl rfl hb18) (o_call Try.call17 (argCons rfl argNil) _) rfl (h.mono ?_)
          rintro _ w21 ⟨x22, rfl, h⟩
          refine WL_val (gdY (b := (decide (x17 ≠ 2))) 28 rfl rfl hb18) ((o_add rfl rfl) _) rfl ?_
          refine WL_val (gdY (b := (decide (x17 ≠ 2))) 28 rfl rfl hb18) ((o_move (v := .pointer none) rfl) _) rfl ?_
          refine WL_call (gdY (b := (decide (x17 ≠ 2))) 28 rfl rfl hb18) (o_call Try.call18 (argCons rfl argNil) _) rfl (h.mono ?_)
          rintro _ w23 ⟨x_a24, x_n25, x_c26, rfl, h⟩
          refine WL_val (gdY (b := (decide (x17 ≠ 2))) 28 rfl rfl hb18) ((o_len Try.underlying43 rfl) _) rfl ?_
          refine WL_val (gdY (b := (decide (x17 ≠ 2))) 28 rfl rfl hb18) ((o_add rfl rfl) _) rfl ?_
          refine WL_call (gdY (b := (decide (x17 ≠ 2))) 28 rfl rfl hb18) (o_call Try.call18 (argCons rfl argNil) _) rfl (h.mono ?_)
          rintro _ w27 ⟨x_a28, x_n29, x_c30, rfl, h⟩
          refine WL_val (gdY (b := (decide (x17 ≠ 2))) 28 rfl rfl hb18) ((o_len Try.underlying43 rfl) _) rfl ?_
          refine WL_val (gdY (b := (decide (x17 ≠ 2))) 28 rfl rfl hb18) ((o_add rfl rfl) _) rfl ?_
          refine WL_val (gdY (b := (decide (x17 ≠ 2))) 28 rfl rfl hb18) ((o_neq rfl rfl) _) rfl ?_
          refine WL_val gd0 ((o_pickF (v := .bool (decide ((IntKind.i64.wrap ((IntKind.i64.wrap ((IntKind.i64.wrap (x20 + x22)) + (x_n25 : Int))) + (x_n29 : Int))) ≠ 0))) rfl hb18 rfl) _) rfl ?_
          refine WL_val gd0 ((o_move (v := .bool (decide ((IntKind.i64.wrap ((IntKind.i64.wrap ((IntKind.i64.wrap (x20 + x22)) + (x_n25 : Int))) + (x_n29 : Int))) ≠ 0))) rfl) _) rfl ?_
          refine bsplit (decide ((IntKind.i64.wrap ((IntKind.i64.wrap ((IntKind.i64.wrap (x20 + x22)) + (x_n25 : Int))) + (x_n29 : Int))) ≠ 0)) (fun hb31 => ?_) (fun hb31 => ?_)
          · rw [if_pos (of_decide_eq_true hb31)] at h
            refine WL_skip (gdN (b := (decide ((IntKind.i64.wrap ((IntKind.i64.wrap ((IntKind.i64.wrap (x20 + x22)) + (x_n25 : Int))) + (x_n29 : Int))) ≠ 0))) 42 rfl rfl hb31) rfl ?_
            refine WL_skip (gdN (b := (decide ((IntKind.i64.wrap ((IntKind.i64.wrap ((IntKind.i64.wrap (x20 + x22)) + (x_n25 : Int))) + (x_n29 : Int))) ≠ 0))) 42 rfl rfl hb31) rfl ?_
            refine WL_skip (gdN (b := (decide ((IntKind.i64.wrap ((IntKind.i64.wrap ((IntKind.i64.wrap (x20 + x22)) + (x_n25 : Int))) + (x_n29 : Int))) ≠ 0))) 42 rfl rfl hb31) rfl ?_
            refine WL_val gd0 ((o_pickT (v := .bool true) rfl hb31 rfl) _) rfl ?_
            refine WL_val gd0 ((o_move (v := .bool true) rfl) _) rfl ?_
            refine WL_skip (gdN (b := true) 47 rfl rfl rfl) rfl ?_
            refine WL_skip (gdN (b := true) 47 rfl rfl rfl) rfl ?_
            refine WL_val gd0 ((o_pickT (v := .bool true) rfl rfl rfl) _) rfl ?_
            refine WL_nil ?_
            refine nrm ?_
            refine WC_cond (t := true) rfl (fun _ => ?_) (fun hx => by rw [(rfl : true = true)] at hx; cases hx)
            refine WC_seq ?_
            refine WC_region ?_
            refine WL_val gd0 ((o_assign (v := .bool false) rfl) _) rfl ?_
            refine WL_nil ?_
            refine nrm ?_
            refine WC_ret ?_
            refine rtT ?_
            refine rtE ?_
            exact gv1 rfl rfl h
          · rw [if_neg (of_decide_eq_false hb31)] at h
            refine WL_val (gdY (b := (decide ((IntKind.i64.wrap ((IntKind.i64.wrap ((IntKind.i64.wrap (x20 + x22)) + (x_n25 : Int))) + (x_n29 : Int))) ≠ 0))) 42 rfl rfl hb31) ((o_move (v := .pointer none) rfl) _) rfl ?_
            refine WL_call (gdY (b := (decide ((IntKind.i64.wrap ((IntKind.i64.wrap ((IntKind.i64.wrap (x20 + x22)) + (x_n25 : Int))) + (x_n29 : Int))) ≠ 0))) 42 rfl rfl hb31) (o_call Try.call19 (argCons rfl argNil) _) rfl (h.mono ?_)
            rintro _ w32 ⟨x33, rfl, h⟩
            refine WL_val (gdY (b := (decide ((IntKind.i64.wrap ((IntKind.i64.wrap ((IntKind.i64.wrap (x20 + x22)) + (x_n25 : Int))) + (x_n29 : Int))) ≠ 0))) 42 rfl rfl hb31) ((o_neqPtrNil Try.underlying23 rfl rfl) _) rfl ?_
            refine WL_val gd0 ((o_pickF (v := .bool (!(x33).isNone)) rfl hb31 rfl) _) rfl ?_
            refine WL_val gd0 ((o_move (v := .bool (!(x33).isNone)) rfl) _) rfl ?_
            refine bsplit (!(x33).isNone) (fun hb34 => ?_) (fun hb34 => ?_)
            · rw [if_pos hb34] at h
              refine WL_skip (gdN (b := (!(x33).isNone)) 47 rfl rfl hb34) rfl ?_
              refine WL_skip (gdN (b := (!(x33).isNone)) 47 rfl rfl hb34) rfl ?_
              refine WL_val gd0 ((o_pickT (v := .bool true) rfl hb34 rfl) _) rfl ?_
              refine WL_nil ?_
              refine nrm ?_
              refine WC_cond (t := true) rfl (fun _ => ?_) (fun hx => by rw [(rfl : true = true)] at hx; cases hx)
              refine WC_seq ?_
              refine WC_region ?_
              refine WL_val gd0 ((o_assign (v := .bool false) rfl) _) rfl ?_
              refine WL_nil ?_
              refine nrm ?_
              refine WC_ret ?_
              refine rtT ?_
              refine rtE ?_
              exact gv1 rfl rfl h
            · rw [if_neg (neT hb34)] at h
              refine WL_call (gdY (b := (!(x33).isNone)) 47 rfl rfl hb34) (o_call Try.call19 (argCons rfl argNil) _) rfl (h.mono ?_)
              rintro _ w35 ⟨x36, rfl, h⟩
              refine WL_val (gdY (b := (!(x33).isNone)) 47 rfl rfl hb34) ((o_neqPtrNil Try.underlying23 rfl rfl) _) rfl ?_
              refine WL_val gd0 ((o_pickF (v := .bool (!(x36).isNone)) rfl hb34 rfl) _) rfl ?_
              refine WL_nil ?_
              refine nrm ?_
              refine WC_cond (t := (!(x36).isNone)) rfl (fun hb37 => ?_) (fun hb37 => ?_)
              · rw [if_pos hb37] at h
                refine WC_seq ?_
                refine WC_region ?_
                refine WL_val gd0 ((o_assign (v := .bool false) rfl) _) rfl ?_
                refine WL_nil ?_
                refine nrm ?_
                refine WC_ret ?_
                refine rtT ?_
                refine rtE ?_
                exact gv1 rfl rfl h
              · rw [if_neg (neT hb37)] at h
                refine WC_skip ?_
                refine nrm ?_
                refine WC_seq ?_
                refine WC_region ?_
                refine WL_call gd0 (o_call Try.call9 argNil _) rfl (h.mono ?_)
                rintro _ w38 ⟨m39, rfl, h⟩
                refine WL_val gd0 ((o_assign (v := .pointer m39) rfl) _) rfl ?_
                refine WL_nil ?_
                refine nrm ?_
                refine WC_seq ?_
                refine WC_cut (fun ρ w' => ∃ (t43 : Bool), ρ 58 = .bool t43 ∧ ρ 0 = .slice l_a1 l_n2 l_c3 ∧ ρ 5 = .pointer m39 ∧ F8_j1 m39 l_n2 l_a1 t43 w' k) ?_ ?_
                · refine WC_region ?_
                  refine WL_val gd0 ((o_move (v := .slice l_a1 l_n2 l_c3) (by exact e0)) _) rfl ?_
                  refine WL_val gd0 ((o_len Try.underlying22 rfl) _) rfl ?_
                  refine WL_val gd0 ((o_gtr rfl rfl) _) rfl ?_
                  refine WL_val gd0 ((o_move (v := .bool (decide (60 < (l_n2 : Int)))) rfl) _) rfl ?_
                  refine bsplit (decide (60 < (l_n2 : Int))) (fun hb148 => ?_) (fun hb148 => ?_)
                  · rw [if_pos (of_decide_eq_true hb148)] at h
                    refine WL_skip (gdN (b := (decide (60 < (l_n2 : Int)))) 55 rfl rfl hb148) rfl ?_
                    refine WL_skip (gdN (b := (decide (60 < (l_n2 : Int)))) 55 rfl rfl hb148) rfl ?_
                    refine WL_val gd0 ((o_pickT (v := .bool true) rfl hb148 rfl) _) rfl ?_
                    refine WL_nil ?_
                    refine nrm ?_
                    exact ⟨_, rfl, e0, rfl, h⟩
                  · rw [if_neg (of_decide_eq_false hb148)] at h
                    refine WL_val (gdY (b := (decide (60 < (l_n2 : Int)))) 55 rfl rfl hb148) ((o_move (v := .pointer m39) rfl) _) rfl ?_
                    refine WL_val (gdY (b := (decide (60 < (l_n2 : Int)))) 55 rfl rfl hb148) ((o_eqlPtrNil Try.underlying23 rfl rfl) _) rfl ?_
                    refine WL_val gd0 ((o_pickF (v := .bool ((m39).isNone)) rfl hb148 rfl) _) rfl ?_
                    refine WL_nil ?_
                    refine nrm ?_
                    exact ⟨_, rfl, e0, rfl, h⟩
                · rintro ρ w44 ⟨t43, e58_42, e0_40, e5_41, h⟩
                  unfold F8_j1 at h
                  refine WC_cond (t := t43) (by exact e58_42) (fun hb45 => ?_) (fun hb45 => ?_)
                  · rw [if_pos hb45] at h
                    refine WC_seq ?_
                    refine WC_region ?_
                    refine WL_val gd0 ((o_move (v := .pointer m39) (by exact e5_41)) _) rfl ?_
                    refine WL_val gd0 ((o_neqPtrNil Try.underlying23 rfl rfl) _) rfl ?_
                    refine WL_val gd0 ((o_move (v := .bool (!(m39).isNone)) rfl) _) rfl ?_
                    refine bsplit (!(m39).isNone) (fun hb46 => ?_) (fun hb46 => ?_)
                    · rw [if_pos hb46] at h
                      refine WL_call (gdY (b := (!(m39).isNone)) 61 rfl rfl hb46) (o_call Try.call10 argNil _) rfl (h.mono ?_)
                      rintro _ w47 ⟨x48, rfl, h⟩
                      refine WL_val gd0 ((o_pickT (v := .bool x48) rfl hb46 rfl) _) rfl ?_
                      refine WL_val gd0 ((o_assign (v := .bool x48) rfl) _) rfl ?_
                      refine WL_nil ?_
                      refine nrm ?_
                      refine WC_ret ?_
                      refine rtT ?_
                      refine rtE ?_
                      exact gv1 rfl rfl h
                    · rw [if_neg (neT hb46)] at h
                      refine WL_skip (gdN (b := (!(m39).isNone)) 61 rfl rfl hb46) rfl ?_
                      refine WL_val gd0 ((o_pickF (v := .bool false) rfl hb46 rfl) _) rfl ?_
                      refine WL_val gd0 ((o_assign (v := .bool false) rfl) _) rfl ?_
                      refine WL_nil ?_
                      refine nrm ?_
                      refine WC_ret ?_
                      refine rtT ?_
                      refine rtE ?_
                      exact gv1 rfl rfl h
                  · rw [if_neg (neT hb45)] at h
                    refine WC_skip ?_
                    refine nrm ?_
                    refine WC_seq ?_
                    refine WC_region ?_
                    have h := New.out h
                    refine WL_val gd0 (o_alloc (z := .agg #[.int .i64 0, .int .i64 0, .slice none 0 0]) (cs := [.int .i64 0, .int .i64 0, .slice none 0 0]) Try.zeroValue28 rfl) rfl ?_
                    generalize hp49 : fresh w44 = p49 at h ⊢
                    generalize hw50 : push w44 28 [.int .i64 0, .int .i64 0, .slice none 0 0] = w50 at h ⊢
                    try dsimp only at h
                    refine WL_nil ?_
                    refine nrm ?_
                    refine WC_seq ?_
                    refine WC_region ?_
                    refine WL_val gd0 ((o_move (v := .slice l_a1 l_n2 l_c3) (by exact e0_40)) _) rfl ?_
                    refine WL_val gd0 ((o_len Try.underlying22 rfl) _) rfl ?_
                    refine WL_val gd0 ((fun w => o_quo rfl rfl w (by decide)) _) rfl ?_
                    refine WL_val gd0 ((o_assign (v := .int .i64 (IntKind.i64.wrap (Int.tdiv (l_n2 : Int) 2))) rfl) _) rfl ?_
                    refine WL_nil ?_
                    refine nrm ?_
                    refine WC_seq ?_
                    refine WC_seq ?_
                    refine WC_region ?_
                    refine WL_val gd0 ((o_assign (v := .int .i64 0) rfl) _) rfl ?_
                    refine WL_nil ?_
                    refine nrm ?_
                    refine WC_block ?_
                    obtain ⟨J57, ⟨n57, h0⟩, hr57⟩ := h
                    refine WC_loop (fun n ρ w' => ∃ (i56 : Int), ρ 8 = .int .i64 i56 ∧ ρ 0 = .slice l_a1 l_n2 l_c3 ∧ ρ 5 = .pointer m39 ∧ ρ 6 = .pointer (some p49) ∧ ρ 7 = .int .i64 (IntKind.i64.wrap (Int.tdiv (l_n2 : Int) 2)) ∧ J57 n i56 w') ⟨n57, _, rfl, e0_40, e5_41, rfl, rfl, h0⟩ ?_
                    rintro n57 ρ w57 ⟨i56, e8_55, e0_51, e5_52, e6_53, e7_54, h⟩
                    have h : F8_b2 l_n2 l_a1 m39 p49 i56 w57 k (fun x0 w => ∃ m, m < n57 ∧ J57 m x0 w) := hr57 n57 i56 w57 h
                    unfold F8_b2 at h
                    refine WC_seq ?_
                    refine WC_seq ?_
                    refine WC_region ?_
                    refine WL_val gd0 ((o_move (v := .int .i64 i56) (by exact e8_55)) _) rfl ?_
                    refine WL_val gd0 ((o_move (v := .int .i64 (IntKind.i64.wrap (Int.tdiv (l_n2 : Int) 2))) (by exact e7_54)) _) rfl ?_
                    refine WL_val gd0 ((o_lss rfl rfl) _) rfl ?_
                    refine WL_nil ?_
                    refine nrm ?_
                    refine WC_cond (t := (decide (i56 < (IntKind.i64.wrap (Int.tdiv (l_n2 : Int) 2))))) rfl (fun hb59 => ?_) (fun hb59 => ?_)
                    · rw [if_pos (of_decide_eq_true hb59)] at h
                      refine WC_skip ?_
                      refine nrm ?_
                      refine WC_seq ?_
                      refine WC_block ?_
                      refine WC_seq ?_
                      refine WC_region ?_
                      refine WL_val gd0 ((o_move (v := .pointer m39) (by exact e5_52)) _) rfl ?_
                      refine WL_val gd0 ((o_move (v := .slice l_a1 l_n2 l_c3) (by exact e0_51)) _) rfl ?_
                      refine WL_val gd0 ((o_move (v := .int .i64 i56) (by exact e8_55)) _) rfl ?_
                      obtain ⟨p62, q63, h⟩ := h
                      obtain ⟨l60, u61, h⟩ := h
                      refine WL_val gd0 ((o_indexAddr Try.underlying22 Try.sizeOf32 (by exact (congrArg (fun z => Value.slice z l_n2 l_c3) q63)) rfl l60 u61) _) rfl ?_
                      obtain ⟨x64, x65, x66, hc67, h⟩ := h
                      refine WL_val gd0 (o_loadAgg (vs := [.bool x64, .int .i64 x65, .int .i64 x66]) Try.isAgg32 Try.sizeOf32 rfl hc67) rfl ?_
                      refine WL_call gd0 (o_call Try.call11 (argCons rfl (argCons (by exact e6_53) (argCons rfl argNil))) _) rfl (h.mono ?_)
                      rintro _ w68 ⟨x69, rfl, h⟩
                      refine WL_val gd0 ((o_not rfl) _) rfl ?_
                      refine WL_nil ?_
                      refine nrm ?_
                      refine WC_cond (t := (!x69)) rfl (fun hb70 => ?_) (fun hb70 => ?_)
                      · rw [if_pos hb70] at h
                        refine WC_seq ?_
                        refine WC_region ?_
                        refine WL_val gd0 ((o_assign (v := .bool false) rfl) _) rfl ?_
                        refine WL_nil ?_
                        refine nrm ?_
                        refine WC_ret ?_
                        refine rtB ?_
                        refine rtT ?_
                        refine rtT ?_
                        refine rtB ?_
                        refine rtT ?_
                        refine rtE ?_
                        exact gv1 rfl rfl h
                      · rw [if_neg (neT hb70)] at h
                        refine WC_skip ?_
                        refine nrmB ?_
                        refine nrm ?_
                        refine WC_region ?_
                        refine WL_val gd0 ((o_move (v := .int .i64 i56) (by exact e8_55)) _) rfl ?_
                        refine WL_val gd0 ((o_add rfl rfl) _) rfl ?_
                        refine WL_val gd0 ((o_assign (v := .int .i64 (IntKind.i64.wrap (i56 + 1))) rfl) _) rfl ?_
                        refine WL_nil ?_
                        refine nrm ?_
                        obtain ⟨m58, hm58, h⟩ := h
                        exact ⟨m58, hm58, _, rfl, e0_51, e5_52, e6_53, e7_54, h⟩
                    · rw [if_neg (of_decide_eq_false hb59)] at h
                      refine WC_exit ?_
                      refine exT ?_
                      refine exT ?_
                      refine exB ?_
                      refine nrm ?_
                      refine WC_seq ?_
                      refine WC_region ?_
                      refine WL_val gd0 ((o_move (v := .pointer m39) (by exact e5_52)) _) rfl ?_
                      refine WL_call gd0 (o_call Try.call19 (argCons rfl argNil) _) rfl (h.mono ?_)
                      rintro _ w71 ⟨c72, rfl, h⟩
                      refine WL_val gd0 ((o_assign (v := .pointer c72) rfl) _) rfl ?_
                      refine WL_nil ?_
                      refine nrm ?_
                      refine WC_seq ?_
                      refine WC_region ?_
                      obtain ⟨x73, x74, x_a75, x_n76, x_c77, hc78, h⟩ := h
                      refine WL_val gd0 (o_loadAgg (vs := [.int .i64 x73, .int .i64 x74, .slice x_a75 x_n76 x_c77]) Try.isAgg28 Try.sizeOf28 (by exact e6_53) hc78) rfl ?_
                      have h := New.out h
                      refine WL_val gd0 (o_alloc (z := .agg #[.int .i64 0, .int .i64 0, .slice none 0 0]) (cs := [.int .i64 0, .int .i64 0, .slice none 0 0]) Try.zeroValue28 rfl) rfl ?_
                      generalize hp79 : fresh w71 = p79 at h ⊢
                      generalize hw80 : push w71 28 [.int .i64 0, .int .i64 0, .slice none 0 0] = w80 at h ⊢
                      try dsimp only at h
                      obtain ⟨c82, h⟩ := h
                      refine WL_act gd0 (o_storeAgg (vs := [.int .i64 x73, .int .i64 x74, .slice x_a75 x_n76 x_c77]) Try.sizeOf28 rfl rfl rfl c82) ?_
                      generalize hw81 : setAll w80 p79 0 [.int .i64 x73, .int .i64 x74, .slice x_a75 x_n76 x_c77] = w81 at h ⊢
                      try dsimp only at h
                      refine WL_nil ?_
                      refine nrm ?_
                      refine WC_seq ?_
                      refine WC_seq ?_
                      refine WC_region ?_
                      refine WL_val gd0 ((o_move (v := .pointer c72) rfl) _) rfl ?_
                      refine WL_val gd0 ((o_eqlPtrNil Try.underlying23 rfl rfl) _) rfl ?_
                      refine WL_nil ?_
                      refine nrm ?_
                      refine WC_cond (t := ((c72).isNone)) rfl (fun hb83 => ?_) (fun hb83 => ?_)
                      · rw [if_pos hb83] at h
                        refine WC_seq ?_
                        refine WC_region ?_
                        refine WL_val gd0 ((o_assign (v := .bool false) rfl) _) rfl ?_
                        refine WL_nil ?_
                        refine nrm ?_
                        refine WC_ret ?_
                        refine rtT ?_
                        refine rtE ?_
                        exact gv1 rfl rfl h
                      · rw [if_neg (neT hb83)] at h
                        refine WC_skip ?_
                        refine nrm ?_
                        refine WC_seq ?_
                        refine WC_seq ?_
                        refine WC_region ?_
                        refine WL_val gd0 ((o_move (v := .int .i64 (IntKind.i64.wrap (Int.tdiv (l_n2 : Int) 2))) (by exact e7_54)) _) rfl ?_
                        refine WL_val gd0 ((o_assign (v := .int .i64 (IntKind.i64.wrap (Int.tdiv (l_n2 : Int) 2))) rfl) _) rfl ?_
                        refine WL_nil ?_
                        refine nrm ?_
                        refine WC_block ?_
                        obtain ⟨J91, ⟨n91, h0⟩, hr91⟩ := h
                        refine WC_loop (fun n ρ w' => ∃ (i90 : Int), ρ 11 = .int .i64 i90 ∧ ρ 0 = .slice l_a1 l_n2 l_c3 ∧ ρ 5 = .pointer m39 ∧ ρ 6 = .pointer (some p49) ∧ ρ 9 = .pointer c72 ∧ ρ 10 = .pointer (some p79) ∧ J91 n i90 w') ⟨n91, _, rfl, e0_51, e5_52, e6_53, rfl, rfl, h0⟩ ?_
                        rintro n91 ρ w91 ⟨i90, e11_89, e0_84, e5_85, e6_86, e9_87, e10_88, h⟩
                        have h : F8_b3 l_n2 l_a1 m39 p49 c72 p79 i90 w91 k (fun x0 w => ∃ m, m < n91 ∧ J91 m x0 w) := hr91 n91 i90 w91 h
                        unfold F8_b3 at h
                        refine WC_seq ?_
                        refine WC_seq ?_
                        refine WC_region ?_
                        refine WL_val gd0 ((o_move (v := .int .i64 i90) (by exact e11_89)) _) rfl ?_
                        refine WL_val gd0 ((o_move (v := .slice l_a1 l_n2 l_c3) (by exact e0_84)) _) rfl ?_
                        refine WL_val gd0 ((o_len Try.underlying22 rfl) _) rfl ?_
                        refine WL_val gd0 ((o_lss rfl rfl) _) rfl ?_
                        refine WL_nil ?_
                        refine nrm ?_
                        refine WC_cond (t := (decide (i90 < (l_n2 : Int)))) rfl (fun hb93 => ?_) (fun hb93 => ?_)
                        · rw [if_pos (of_decide_eq_true hb93)] at h
                          refine WC_skip ?_
                          refine nrm ?_
                          refine WC_seq ?_
                          refine WC_block ?_
                          refine WC_seq ?_
                          refine WC_region ?_
                          refine WL_val gd0 ((o_move (v := .int .i64 i90) (by exact e11_89)) _) rfl ?_
                          refine WL_val gd0 ((fun w => o_rem rfl rfl w (by decide)) _) rfl ?_
                          refine WL_val gd0 ((o_eql rfl rfl) _) rfl ?_
                          refine WL_val gd0 ((o_move (v := .bool (decide ((Int.tmod i90 2) = 0))) rfl) _) rfl ?_
                          refine bsplit (decide ((Int.tmod i90 2) = 0)) (fun hb94 => ?_) (fun hb94 => ?_)
                          · rw [if_pos (of_decide_eq_true hb94)] at h
                            refine WL_val (gdY (b := (decide ((Int.tmod i90 2) = 0))) 94 rfl rfl hb94) ((o_move (v := .pointer m39) (by exact e5_85)) _) rfl ?_
                            refine WL_val (gdY (b := (decide ((Int.tmod i90 2) = 0))) 94 rfl rfl hb94) ((o_move (v := .slice l_a1 l_n2 l_c3) (by exact e0_84)) _) rfl ?_
                            refine WL_val (gdY (b := (decide ((Int.tmod i90 2) = 0))) 94 rfl rfl hb94) ((o_move (v := .int .i64 i90) (by exact e11_89)) _) rfl ?_
                            obtain ⟨p97, q98, h⟩ := h
                            obtain ⟨l95, u96, h⟩ := h
                            refine WL_val (gdY (b := (decide ((Int.tmod i90 2) = 0))) 94 rfl rfl hb94) ((o_indexAddr Try.underlying22 Try.sizeOf32 (by exact (congrArg (fun z => Value.slice z l_n2 l_c3) q98)) rfl l95 u96) _) rfl ?_
                            obtain ⟨x99, x100, x101, hc102, h⟩ := h
                            refine WL_val (gdY (b := (decide ((Int.tmod i90 2) = 0))) 94 rfl rfl hb94) (o_loadAgg (vs := [.bool x99, .int .i64 x100, .int .i64 x101]) Try.isAgg32 Try.sizeOf32 rfl hc102) rfl ?_
                            refine WL_call (gdY (b := (decide ((Int.tmod i90 2) = 0))) 94 rfl rfl hb94) (o_call Try.call11 (argCons rfl (argCons (by exact e6_86) (argCons rfl argNil))) _) rfl (h.mono ?_)
                            rintro _ w103 ⟨x104, rfl, h⟩
                            refine WL_val (gdY (b := (decide ((Int.tmod i90 2) = 0))) 94 rfl rfl hb94) ((o_not rfl) _) rfl ?_
                            refine WL_val gd0 ((o_pickT (v := .bool (!x104)) rfl hb94 rfl) _) rfl ?_
                            refine WL_val gd0 ((o_move (v := .bool (!x104)) rfl) _) rfl ?_
                            refine bsplit (!x104) (fun hb105 => ?_) (fun hb105 => ?_)
                            · rw [if_pos hb105] at h
                              refine WL_skip (gdN (b := (!x104)) 103 rfl rfl hb105) rfl ?_
                              refine WL_skip (gdN (b := (!x104)) 103 rfl rfl hb105) rfl ?_
                              refine WL_skip (gdN (b := (!x104)) 103 rfl rfl hb105) rfl ?_
                              refine WL_skip (gdN (b := (!x104)) 103 rfl rfl hb105) rfl ?_
                              refine WL_skip (gdU 107 rfl rfl) rfl ?_
                              refine WL_skip (gdU 107 rfl rfl) rfl ?_
                              refine WL_skip (gdU 107 rfl rfl) rfl ?_
                              refine WL_skip (gdU 107 rfl rfl) rfl ?_
                              refine WL_skip (gdU 107 rfl rfl) rfl ?_
                              refine WL_skip (gdU 107 rfl rfl) rfl ?_
                              refine WL_skip (gdU 107 rfl rfl) rfl ?_
                              refine WL_skip (gdN (b := (!x104)) 103 rfl rfl hb105) rfl ?_
                              refine WL_val gd0 ((o_pickT (v := .bool true) rfl hb105 rfl) _) rfl ?_
                              refine WL_nil ?_
                              refine nrm ?_
                              refine WC_cond (t := true) rfl (fun _ => ?_) (fun hx => by rw [(rfl : true = true)] at hx; cases hx)
                              refine WC_seq ?_
                              refine WC_region ?_
                              refine WL_val gd0 ((o_assign (v := .bool false) rfl) _) rfl ?_
                              refine WL_nil ?_
                              refine nrm ?_
                              refine WC_ret ?_
                              refine rtB ?_
                              refine rtT ?_
                              refine rtT ?_
                              refine rtB ?_
                              refine rtT ?_
                              refine rtE ?_
                              exact gv1 rfl rfl h
                            · rw [if_neg (neT hb105)] at h
                              refine WL_val (gdY (b := (!x104)) 103 rfl rfl hb105) ((o_move (v := .int .i64 i90) (by exact e11_89)) _) rfl ?_
                              refine WL_val (gdY (b := (!x104)) 103 rfl rfl hb105) ((fun w => o_rem rfl rfl w (by decide)) _) rfl ?_
                              refine WL_val (gdY (b := (!x104)) 103 rfl rfl hb105) ((o_eql rfl rfl) _) rfl ?_
                              refine WL_val (gdY (b := (!x104)) 103 rfl rfl hb105) ((o_move (v := .bool (decide ((Int.tmod i90 2) = 1))) rfl) _) rfl ?_
                              refine bsplit (decide ((Int.tmod i90 2) = 1)) (fun hb106 => ?_) (fun hb106 => ?_)
                              · rw [if_pos (of_decide_eq_true hb106)] at h
                                refine WL_val (gdY (b := (decide ((Int.tmod i90 2) = 1))) 107 rfl rfl hb106) ((o_move (v := .pointer c72) (by exact e9_87)) _) rfl ?_
                                refine WL_val (gdY (b := (decide ((Int.tmod i90 2) = 1))) 107 rfl rfl hb106) ((o_move (v := .slice l_a1 l_n2 l_c3) (by exact e0_84)) _) rfl ?_
                                refine WL_val (gdY (b := (decide ((Int.tmod i90 2) = 1))) 107 rfl rfl hb106) ((o_move (v := .int .i64 i90) (by exact e11_89)) _) rfl ?_
                                obtain ⟨l107, u108, h⟩ := h
                                refine WL_val (gdY (b := (decide ((Int.tmod i90 2) = 1))) 107 rfl rfl hb106) ((o_indexAddr Try.underlying22 Try.sizeOf32 (by exact (congrArg (fun z => Value.slice z l_n2 l_c3) q98)) rfl l107 u108) _) rfl ?_
                                obtain ⟨x109, x110, x111, hc112, h⟩ := h
                                refine WL_val (gdY (b := (decide ((Int.tmod i90 2) = 1))) 107 rfl rfl hb106) (o_loadAgg (vs := [.bool x109, .int .i64 x110, .int .i64 x111]) Try.isAgg32 Try.sizeOf32 rfl hc112) rfl ?_
                                refine WL_call (gdY (b := (decide ((Int.tmod i90 2) = 1))) 107 rfl rfl hb106) (o_call Try.call11 (argCons rfl (argCons (by exact e10_88) (argCons rfl argNil))) _) rfl (h.mono ?_)
                                rintro _ w113 ⟨x114, rfl, h⟩
                                refine WL_val (gdY (b := (decide ((Int.tmod i90 2) = 1))) 107 rfl rfl hb106) ((o_not rfl) _) rfl ?_
                                refine WL_val (gdY (b := (!x104)) 103 rfl rfl hb105) ((o_pickT (v := .bool (!x114)) rfl hb106 rfl) _) rfl ?_
                                refine WL_val gd0 ((o_pickF (v := .bool (!x114)) rfl hb105 rfl) _) rfl ?_
                                refine WL_nil ?_
                                refine nrm ?_
                                refine WC_cond (t := (!x114)) rfl (fun hb115 => ?_) (fun hb115 => ?_)
                                · rw [if_pos hb115] at h
                                  refine WC_seq ?_
                                  refine WC_region ?_
                                  refine WL_val gd0 ((o_assign (v := .bool false) rfl) _) rfl ?_
                                  refine WL_nil ?_
                                  refine nrm ?_
                                  refine WC_ret ?_
                                  refine rtB ?_
                                  refine rtT ?_
                                  refine rtT ?_
                                  refine rtB ?_
                                  refine rtT ?_
                                  refine rtE ?_
                                  exact gv1 rfl rfl h
                                · rw [if_neg (neT hb115)] at h
                                  refine WC_skip ?_
                                  refine nrmB ?_
                                  refine nrm ?_
                                  refine WC_region ?_
                                  refine WL_val gd0 ((o_move (v := .int .i64 i90) (by exact e11_89)) _) rfl ?_
                                  refine WL_val gd0 ((o_add rfl rfl) _) rfl ?_
                                  refine WL_val gd0 ((o_assign (v := .int .i64 (IntKind.i64.wrap (i90 + 1))) rfl) _) rfl ?_
                                  refine WL_nil ?_
                                  refine nrm ?_
                                  obtain ⟨m92, hm92, h⟩ := h
                                  exact ⟨m92, hm92, _, rfl, e0_84, e5_85, e6_86, e9_87, e10_88, h⟩
                              · rw [if_neg (of_decide_eq_false hb106)] at h
                                refine WL_skip (gdN (b := (decide ((Int.tmod i90 2) = 1))) 107 rfl rfl hb106) rfl ?_
                                refine WL_skip (gdN (b := (decide ((Int.tmod i90 2) = 1))) 107 rfl rfl hb106) rfl ?_
                                refine WL_skip (gdN (b := (decide ((Int.tmod i90 2) = 1))) 107 rfl rfl hb106) rfl ?_
                                refine WL_skip (gdN (b := (decide ((Int.tmod i90 2) = 1))) 107 rfl rfl hb106) rfl ?_
                                refine WL_skip (gdN (b := (decide ((Int.tmod i90 2) = 1))) 107 rfl rfl hb106) rfl ?_
                                refine WL_skip (gdN (b := (decide ((Int.tmod i90 2) = 1))) 107 rfl rfl hb106) rfl ?_
                                refine WL_skip (gdN (b := (decide ((Int.tmod i90 2) = 1))) 107 rfl rfl hb106) rfl ?_
                                refine WL_val (gdY (b := (!x104)) 103 rfl rfl hb105) ((o_pickF (v := .bool false) rfl hb106 rfl) _) rfl ?_
                                refine WL_val gd0 ((o_pickF (v := .bool false) rfl hb105 rfl) _) rfl ?_
                                refine WL_nil ?_
                                refine nrm ?_
                                refine WC_cond (t := false) rfl (fun hx => by rw [(rfl : false = false)] at hx; cases hx) (fun _ => ?_)
                                refine WC_skip ?_
                                refine nrmB ?_
                                refine nrm ?_
                                refine WC_region ?_
                                refine WL_val gd0 ((o_move (v := .int .i64 i90) (by exact e11_89)) _) rfl ?_
                                refine WL_val gd0 ((o_add rfl rfl) _) rfl ?_
                                refine WL_val gd0 ((o_assign (v := .int .i64 (IntKind.i64.wrap (i90 + 1))) rfl) _) rfl ?_
                                refine WL_nil ?_
                                refine nrm ?_
                                obtain ⟨m92, hm92, h⟩ := h
                                exact ⟨m92, hm92, _, rfl, e0_84, e5_85, e6_86, e9_87, e10_88, h⟩
                          · rw [if_neg (of_decide_eq_false hb94)] at h
                            refine WL_skip (gdN (b := (decide ((Int.tmod i90 2) = 0))) 94 rfl rfl hb94) rfl ?_
                            refine WL_skip (gdN (b := (decide ((Int.tmod i90 2) = 0))) 94 rfl rfl hb94) rfl ?_
                            refine WL_skip (gdN (b := (decide ((Int.tmod i90 2) = 0))) 94 rfl rfl hb94) rfl ?_
                            refine WL_skip (gdN (b := (decide ((Int.tmod i90 2) = 0))) 94 rfl rfl hb94) rfl ?_
                            refine WL_skip (gdN (b := (decide ((Int.tmod i90 2) = 0))) 94 rfl rfl hb94) rfl ?_
                            refine WL_skip (gdN (b := (decide ((Int.tmod i90 2) = 0))) 94 rfl rfl hb94) rfl ?_
                            refine WL_skip (gdN (b := (decide ((Int.tmod i90 2) = 0))) 94 rfl rfl hb94) rfl ?_
                            refine WL_val gd0 ((o_pickF (v := .bool false) rfl hb94 rfl) _) rfl ?_
                            refine WL_val gd0 ((o_move (v := .bool false) rfl) _) rfl ?_
                            refine WL_val (gdY (b := false) 103 rfl rfl rfl) ((o_move (v := .int .i64 i90) (by exact e11_89)) _) rfl ?_
                            refine WL_val (gdY (b := false) 103 rfl rfl rfl) ((fun w => o_rem rfl rfl w (by decide)) _) rfl ?_
                            refine WL_val (gdY (b := false) 103 rfl rfl rfl) ((o_eql rfl rfl) _) rfl ?_
                            refine WL_val (gdY (b := false) 103 rfl rfl rfl) ((o_move (v := .bool (decide ((Int.tmod i90 2) = 1))) rfl) _) rfl ?_
                            refine bsplit (decide ((Int.tmod i90 2) = 1)) (fun hb116 => ?_) (fun hb116 => ?_)
                            · rw [if_pos (of_decide_eq_true hb116)] at h
                              refine WL_val (gdY (b := (decide ((Int.tmod i90 2) = 1))) 107 rfl rfl hb116) ((o_move (v := .pointer c72) (by exact e9_87)) _) rfl ?_
                              refine WL_val (gdY (b := (decide ((Int.tmod i90 2) = 1))) 107 rfl rfl hb116) ((o_move (v := .slice l_a1 l_n2 l_c3) (by exact e0_84)) _) rfl ?_
                              refine WL_val (gdY (b := (decide ((Int.tmod i90 2) = 1))) 107 rfl rfl hb116) ((o_move (v := .int .i64 i90) (by exact e11_89)) _) rfl ?_
                              obtain ⟨p119, q120, h⟩ := h
                              obtain ⟨l117, u118, h⟩ := h
                              refine WL_val (gdY (b := (decide ((Int.tmod i90 2) = 1))) 107 rfl rfl hb116) ((o_indexAddr Try.underlying22 Try.sizeOf32 (by exact (congrArg (fun z => Value.slice z l_n2 l_c3) q120)) rfl l117 u118) _) rfl ?_
                              obtain ⟨x121, x122, x123, hc124, h⟩ := h
                              refine WL_val (gdY (b := (decide ((Int.tmod i90 2) = 1))) 107 rfl rfl hb116) (o_loadAgg (vs := [.bool x121, .int .i64 x122, .int .i64 x123]) Try.isAgg32 Try.sizeOf32 rfl hc124) rfl ?_
                              refine WL_call (gdY (b := (decide ((Int.tmod i90 2) = 1))) 107 rfl rfl hb116) (o_call Try.call11 (argCons rfl (argCons (by exact e10_88) (argCons rfl argNil))) _) rfl (h.mono ?_)
                              rintro _ w125 ⟨x126, rfl, h⟩
                              refine WL_val (gdY (b := (decide ((Int.tmod i90 2) = 1))) 107 rfl rfl hb116) ((o_not rfl) _) rfl ?_
                              refine WL_val (gdY (b := false) 103 rfl rfl rfl) ((o_pickT (v := .bool (!x126)) rfl hb116 rfl) _) rfl ?_
                              refine WL_val gd0 ((o_pickF (v := .bool (!x126)) rfl rfl rfl) _) rfl ?_
                              refine WL_nil ?_
                              refine nrm ?_
                              refine WC_cond (t := (!x126)) rfl (fun hb127 => ?_) (fun hb127 => ?_)
                              · rw [if_pos hb127] at h
                                refine WC_seq ?_
                                refine WC_region ?_
                                refine WL_val gd0 ((o_assign (v := .bool false) rfl) _) rfl ?_
                                refine WL_nil ?_
                                refine nrm ?_
                                refine WC_ret ?_
                                refine rtB ?_
                                refine rtT ?_
                                refine rtT ?_
                                refine rtB ?_
                                refine rtT ?_
                                refine rtE ?_
                                exact gv1 rfl rfl h
                              · rw [if_neg (neT hb127)] at h
                                refine WC_skip ?_
                                refine nrmB ?_
                                refine nrm ?_
                                refine WC_region ?_
                                refine WL_val gd0 ((o_move (v := .int .i64 i90) (by exact e11_89)) _) rfl ?_
                                refine WL_val gd0 ((o_add rfl rfl) _) rfl ?_
                                refine WL_val gd0 ((o_assign (v := .int .i64 (IntKind.i64.wrap (i90 + 1))) rfl) _) rfl ?_
                                refine WL_nil ?_
                                refine nrm ?_
                                obtain ⟨m92, hm92, h⟩ := h
                                exact ⟨m92, hm92, _, rfl, e0_84, e5_85, e6_86, e9_87, e10_88, h⟩
                            · rw [if_neg (of_decide_eq_false hb116)] at h
                              refine WL_skip (gdN (b := (decide ((Int.tmod i90 2) = 1))) 107 rfl rfl hb116) rfl ?_
                              refine WL_skip (gdN (b := (decide ((Int.tmod i90 2) = 1))) 107 rfl rfl hb116) rfl ?_
                              refine WL_skip (gdN (b := (decide ((Int.tmod i90 2) = 1))) 107 rfl rfl hb116) rfl ?_
                              refine WL_skip (gdN (b := (decide ((Int.tmod i90 2) = 1))) 107 rfl rfl hb116) rfl ?_
                              refine WL_skip (gdN (b := (decide ((Int.tmod i90 2) = 1))) 107 rfl rfl hb116) rfl ?_
                              refine WL_skip (gdN (b := (decide ((Int.tmod i90 2) = 1))) 107 rfl rfl hb116) rfl ?_
                              refine WL_skip (gdN (b := (decide ((Int.tmod i90 2) = 1))) 107 rfl rfl hb116) rfl ?_
                              refine WL_val (gdY (b := false) 103 rfl rfl rfl) ((o_pickF (v := .bool false) rfl hb116 rfl) _) rfl ?_
                              refine WL_val gd0 ((o_pickF (v := .bool false) rfl rfl rfl) _) rfl ?_
                              refine WL_nil ?_
                              refine nrm ?_
                              refine WC_cond (t := false) rfl (fun hx => by rw [(rfl : false = false)] at hx; cases hx) (fun _ => ?_)
                              refine WC_skip ?_
                              refine nrmB ?_
                              refine nrm ?_
                              refine WC_region ?_
                              refine WL_val gd0 ((o_move (v := .int .i64 i90) (by exact e11_89)) _) rfl ?_
                              refine WL_val gd0 ((o_add rfl rfl) _) rfl ?_
                              refine WL_val gd0 ((o_assign (v := .int .i64 (IntKind.i64.wrap (i90 + 1))) rfl) _) rfl ?_
                              refine WL_nil ?_
                              refine nrm ?_
                              obtain ⟨m92, hm92, h⟩ := h
                              exact ⟨m92, hm92, _, rfl, e0_84, e5_85, e6_86, e9_87, e10_88, h⟩
                        · rw [if_neg (of_decide_eq_false hb93)] at h
                          refine WC_exit ?_
                          refine exT ?_
                          refine exT ?_
                          refine exB ?_
                          refine nrm ?_
                          refine WC_seq ?_
                          refine WC_region ?_
                          refine WL_val gd0 ((o_move (v := .pointer m39) (by exact e5_85)) _) rfl ?_
                          obtain ⟨x128, x129, x_a130, x_n131, x_c132, hc133, h⟩ := h
                          refine WL_val gd0 (o_loadAgg (vs := [.int .i64 x128, .int .i64 x129, .slice x_a130 x_n131 x_c132]) Try.isAgg28 Try.sizeOf28 (by exact e6_86) hc133) rfl ?_
                          refine WL_call gd0 (o_call Try.call12 (argCons rfl (argCons rfl argNil)) _) rfl (h.mono ?_)
                          rintro _ w134 ⟨x135, rfl, h⟩
                          refine WL_val gd0 ((o_move (v := .bool x135) rfl) _) rfl ?_
                          refine bsplit x135 (fun hb136 => ?_) (fun hb136 => ?_)
                          · rw [if_pos hb136] at h
                            refine WL_val (gdY (b := x135) 120 rfl rfl hb136) ((o_move (v := .pointer c72) (by exact e9_87)) _) rfl ?_
                            obtain ⟨x137, x138, x_a139, x_n140, x_c141, hc142, h⟩ := h
                            refine WL_val (gdY (b := x135) 120 rfl rfl hb136) (o_loadAgg (vs := [.int .i64 x137, .int .i64 x138, .slice x_a139 x_n140 x_c141]) Try.isAgg28 Try.sizeOf28 (by exact e10_88) hc142) rfl ?_
                            refine WL_call (gdY (b := x135) 120 rfl rfl hb136) (o_call Try.call12 (argCons rfl (argCons rfl argNil)) _) rfl (h.mono ?_)
                            rintro _ w143 ⟨x144, rfl, h⟩
                            refine WL_val gd0 ((o_pickT (v := .bool x144) rfl hb136 rfl) _) rfl ?_
                            refine WL_val gd0 ((o_move (v := .bool x144) rfl) _) rfl ?_
                            refine bsplit x144 (fun hb145 => ?_) (fun hb145 => ?_)
                            · rw [if_pos hb145] at h
                              refine WL_call (gdY (b := x144) 125 rfl rfl hb145) (o_call Try.call10 argNil _) rfl (h.mono ?_)
                              rintro _ w146 ⟨x147, rfl, h⟩
                              refine WL_val gd0 ((o_pickT (v := .bool x147) rfl hb145 rfl) _) rfl ?_
                              refine WL_val gd0 ((o_assign (v := .bool x147) rfl) _) rfl ?_
                              refine WL_nil ?_
                              refine nrm ?_
                              refine WC_ret ?_
                              refine rtE ?_
                              exact gv1 rfl rfl h
                            · rw [if_neg (neT hb145)] at h
                              refine WL_skip (gdN (b := x144) 125 rfl rfl hb145) rfl ?_
                              refine WL_val gd0 ((o_pickF (v := .bool false) rfl hb145 rfl) _) rfl ?_
                              refine WL_val gd0 ((o_assign (v := .bool false) rfl) _) rfl ?_
                              refine WL_nil ?_
                              refine nrm ?_
                              refine WC_ret ?_
                              refine rtE ?_
                              exact gv1 rfl rfl h
                          · rw [if_neg (neT hb136)] at h
                            refine WL_skip (gdN (b := x135) 120 rfl rfl hb136) rfl ?_
                            refine WL_skip (gdN (b := x135) 120 rfl rfl hb136) rfl ?_
                            refine WL_skip (gdN (b := x135) 120 rfl rfl hb136) rfl ?_
                            refine WL_val gd0 ((o_pickF (v := .bool false) rfl hb136 rfl) _) rfl ?_
                            refine WL_val gd0 ((o_move (v := .bool false) rfl) _) rfl ?_
                            refine WL_skip (gdN (b := false) 125 rfl rfl rfl) rfl ?_
                            refine WL_val gd0 ((o_pickF (v := .bool false) rfl rfl rfl) _) rfl ?_
                            refine WL_val gd0 ((o_assign (v := .bool false) rfl) _) rfl ?_
                            refine WL_nil ?_
                            refine nrm ?_
                            refine WC_ret ?_
                            refine rtE ?_
                            exact gv1 rfl rfl h

/-- spacecraft spacecraftlaw45.lives -/
def F10 (w1 : World) (k : Value → World → Prop) : Prop :=
  Does Try.prog 9 #[] w1 (fun v w2 => ∃ (m3 : Option Addr), v = .pointer m3 ∧ if (m3).isNone = true then
  k (.bool false) w2
else
  Does Try.prog 17 #[.pointer m3] w2 (fun v w5 => ∃ (x6 : Int), v = .int .i64 x6 ∧ Does Try.prog 16 #[.pointer m3, .int .i64 1, .int .i64 5] w5 (fun v w7 => ∃ (x8 : Int), v = .int .i64 x8 ∧ Does Try.prog 15 #[.pointer m3, .int .i64 5] w7 (fun v w9 => ∃ (x10 : Int), v = .int .i64 x10 ∧ Does Try.prog 16 #[.pointer m3, .int .i64 4, .int .i64 6] w9 (fun v w11 => ∃ (x12 : Int), v = .int .i64 x12 ∧ Does Try.prog 16 #[.pointer m3, .int .i64 2, .int .i64 7] w11 (fun v w13 => ∃ (x14 : Int), v = .int .i64 x14 ∧ Does Try.prog 16 #[.pointer m3, .int .i64 3, .int .i64 8] w13 (fun v w15 => ∃ (x16 : Int), v = .int .i64 x16 ∧ Does Try.prog 16 #[.pointer m3, .int .i64 4, .int .i64 9] w15 (fun v w17 => ∃ (x18 : Int), v = .int .i64 x18 ∧ Does Try.prog 18 #[.pointer m3] w17 (fun v w19 => ∃ (l_a20 : Option Addr) (l_n21 l_c22 : Nat), v = .slice l_a20 l_n21 l_c22 ∧ if x6 = 0 then
    if x8 = 11 then
      if x10 = 0 then
        if x12 = 11 then
          if x14 = 0 then
            if x16 = 0 then
              if x18 = 0 then
                Does Try.prog 17 #[.pointer m3] w19 (fun v w30 => ∃ (x31 : Int), v = .int .i64 x31 ∧ if x31 = 4 then
                  if (l_n21 : Int) = 4 then
                    ∃ (p36 : Addr), l_a20 = some p36 ∧ (0 : Int) ≤ 0 ∧ 0 < (l_n21 : Int) ∧ ∃ (x38 x39 x40 : Int), Cells w30 (p36.add (((0 : Int).toNat) * 3)) 0 [.int .i64 x38, .int .i64 x39, .int .i64 x40] ∧ ∃ (eq42 : Bool), (∀ w d, (Op.equalIn (d + 5) 46 (.agg #[.int .i64 x38, .int .i64 x39, .int .i64 x40]) (.agg #[.int .i64 5, .int .i64 0, .int .i64 1])).run Try.prog w = .ok eq42 w) ∧ if eq42 = true then
                      (0 : Int) ≤ 3 ∧ 3 < (l_n21 : Int) ∧ ∃ (x47 x48 x49 : Int), Cells w30 (p36.add (((3 : Int).toNat) * 3)) 0 [.int .i64 x47, .int .i64 x48, .int .i64 x49] ∧ ∃ (eq51 : Bool), (∀ w d, (Op.equalIn (d + 5) 46 (.agg #[.int .i64 x47, .int .i64 x48, .int .i64 x49]) (.agg #[.int .i64 9, .int .i64 3, .int .i64 4])).run Try.prog w = .ok eq51 w) ∧ if eq51 = true then
                        Does Try.prog 16 #[.pointer m3, .int .i64 5, .int .i64 0] w30 (fun v w54 => ∃ (x55 : Int), v = .int .i64 x55 ∧ k (.bool (decide (x55 = 1))) w54)
                      else
                        k (.bool false) w30
                    else
                      k (.bool false) w30
                  else
                    k (.bool false) w30
                else
                  k (.bool false) w30)
              else
                k (.bool false) w19
            else
              k (.bool false) w19
          else
            k (.bool false) w19
        else
          k (.bool false) w19
      else
        k (.bool false) w19
    else
      k (.bool false) w19
  else
    k (.bool false) w19)))))))))
set_option maxRecDepth 100000 in
set_option maxHeartbeats 2000000 in
theorem w10 (w1 : World) (k : Value → World → Prop) (h : F10 w1 k) : Does Try.prog 10 #[] w1 k := by
  refine enter 84 Try.func10 rfl rfl rfl ?_
  intro ρ hρ
  unfold F10 at h
  refine WC_seq ?_
  refine WC_region ?_
  refine WL_val gd0 ((o_assign (v := .bool false) rfl) _) rfl ?_
  refine WL_nil ?_
  refine nrm ?_
  refine WC_seq ?_
  refine WC_region ?_
  refine WL_call gd0 (o_call Try.call9 argNil _) rfl (h.mono ?_)
  rintro _ w2 ⟨m3, rfl, h⟩
  refine WL_val gd0 ((o_assign (v := .pointer m3) rfl) _) rfl ?_
  refine WL_nil ?_
  refine nrm ?_
  refine WC_seq ?_
  refine WC_seq ?_
  refine WC_region ?_
  refine WL_val gd0 ((o_move (v := .pointer m3) rfl) _) rfl ?_
  refine WL_val gd0 ((o_eqlPtrNil Try.underlying23 rfl rfl) _) rfl ?_
  refine WL_nil ?_
  refine nrm ?_
  refine WC_cond (t := ((m3).isNone)) rfl (fun hb4 => ?_) (fun hb4 => ?_)
  · rw [if_pos hb4] at h
    refine WC_seq ?_
    refine WC_region ?_
    refine WL_val gd0 ((o_assign (v := .bool false) rfl) _) rfl ?_
    refine WL_nil ?_
    refine nrm ?_
    refine WC_ret ?_
    refine rtT ?_
    refine rtE ?_
    exact gv1 rfl rfl h
  · rw [if_neg (neT hb4)] at h
    refine WC_skip ?_
    refine nrm ?_
    refine WC_seq ?_
    refine WC_region ?_
    refine WL_val gd0 ((o_move (v := .pointer m3) rfl) _) rfl ?_
    refine WL_call gd0 (o_call Try.call17 (argCons rfl argNil) _) rfl (h.mono ?_)
    rintro _ w5 ⟨x6, rfl, h⟩
    refine WL_val gd0 ((o_move (v := .pointer m3) rfl) _) rfl ?_
    refine WL_call gd0 (o_call Try.call16 (argCons rfl (argCons rfl (argCons rfl argNil))) _) rfl (h.mono ?_)
    rintro _ w7 ⟨x8, rfl, h⟩
    refine WL_val gd0 ((o_assign (v := .int .i64 x6) rfl) _) rfl ?_
    refine WL_val gd0 ((o_assign (v := .int .i64 x8) rfl) _) rfl ?_
    refine WL_nil ?_
    refine nrm ?_
    refine WC_seq ?_
    refine WC_region ?_
    refine WL_val gd0 ((o_move (v := .pointer m3) rfl) _) rfl ?_
    refine WL_call gd0 (o_call Try.call15 (argCons rfl (argCons rfl argNil)) _) rfl (h.mono ?_)
    rintro _ w9 ⟨x10, rfl, h⟩
    refine WL_val gd0 ((o_move (v := .pointer m3) rfl) _) rfl ?_
    refine WL_call gd0 (o_call Try.call16 (argCons rfl (argCons rfl (argCons rfl argNil))) _) rfl (h.mono ?_)
    rintro _ w11 ⟨x12, rfl, h⟩
    refine WL_val gd0 ((o_assign (v := .int .i64 x10) rfl) _) rfl ?_
    refine WL_val gd0 ((o_assign (v := .int .i64 x12) rfl) _) rfl ?_
    refine WL_nil ?_
    refine nrm ?_
    refine WC_seq ?_
    refine WC_region ?_
    refine WL_val gd0 ((o_move (v := .pointer m3) rfl) _) rfl ?_
    refine WL_call gd0 (o_call Try.call16 (argCons rfl (argCons rfl (argCons rfl argNil))) _) rfl (h.mono ?_)
    rintro _ w13 ⟨x14, rfl, h⟩
    refine WL_val gd0 ((o_move (v := .pointer m3) rfl) _) rfl ?_
    refine WL_call gd0 (o_call Try.call16 (argCons rfl (argCons rfl (argCons rfl argNil))) _) rfl (h.mono ?_)
    rintro _ w15 ⟨x16, rfl, h⟩
    refine WL_val gd0 ((o_move (v := .pointer m3) rfl) _) rfl ?_
    refine WL_call gd0 (o_call Try.call16 (argCons rfl (argCons rfl (argCons rfl argNil))) _) rfl (h.mono ?_)
    rintro _ w17 ⟨x18, rfl, h⟩
    refine WL_val gd0 ((o_assign (v := .int .i64 x14) rfl) _) rfl ?_
    refine WL_val gd0 ((o_assign (v := .int .i64 x16) rfl) _) rfl ?_
    refine WL_val gd0 ((o_assign (v := .int .i64 x18) rfl) _) rfl ?_
    refine WL_nil ?_
    refine nrm ?_
    refine WC_seq ?_
    refine WC_region ?_
    refine WL_val gd0 ((o_move (v := .pointer m3) rfl) _) rfl ?_
    refine WL_call gd0 (o_call Try.call18 (argCons rfl argNil) _) rfl (h.mono ?_)
    rintro _ w19 ⟨l_a20, l_n21, l_c22, rfl, h⟩
    refine WL_val gd0 ((o_assign (v := .slice l_a20 l_n21 l_c22) rfl) _) rfl ?_
    refine WL_nil ?_
    refine nrm ?_
    refine WC_seq ?_
    refine WC_region ?_
    refine WL_val gd0 ((o_move (v := .int .i64 x6) rfl) _) rfl ?_
    refine WL_val gd0 ((o_eql rfl rfl) _) rfl ?_
    refine WL_val gd0 ((o_move (v := .bool (decide (x6 = 0))) rfl) _) rfl ?_
    refine bsplit (decide (x6 = 0)) (fun hb23 => ?_) (fun hb23 => ?_)
    · rw [if_pos (of_decide_eq_true hb23)] at h
      refine WL_val (gdY (b := (decide (x6 = 0))) 31 rfl rfl hb23) ((o_move (v := .int .i64 x8) rfl) _) rfl ?_
      refine WL_val (gdY (b := (decide (x6 = 0))) 31 rfl rfl hb23) ((o_eql rfl rfl) _) rfl ?_
      refine WL_val gd0 ((o_pickT (v := .bool (decide (x8 = 11))) rfl hb23 rfl) _) rfl ?_
      refine WL_val gd0 ((o_move (v := .bool (decide (x8 = 11))) rfl) _) rfl ?_
      refine bsplit (decide (x8 = 11)) (fun hb24 => ?_) (fun hb24 => ?_)
      · rw [if_pos (of_decide_eq_true hb24)] at h
        refine WL_val (gdY (b := (decide (x8 = 11))) 35 rfl rfl hb24) ((o_move (v := .int .i64 x10) rfl) _) rfl ?_
        refine WL_val (gdY (b := (decide (x8 = 11))) 35 rfl rfl hb24) ((o_eql rfl rfl) _) rfl ?_
        refine WL_val gd0 ((o_pickT (v := .bool (decide (x10 = 0))) rfl hb24 rfl) _) rfl ?_
        refine WL_val gd0 ((o_move (v := .bool (decide (x10 = 0))) rfl) _) rfl ?_
        refine bsplit (decide (x10 = 0)) (fun hb25 => ?_) (fun hb25 => ?_)
        · rw [if_pos (of_decide_eq_true hb25)] at h
          refine WL_val (gdY (b := (decide (x10 = 0))) 39 rfl rfl hb25) ((o_move (v := .int .i64 x12) rfl) _) rfl ?_
          refine WL_val (gdY (b := (decide (x10 = 0))) 39 rfl rfl hb25) ((o_eql rfl rfl) _) rfl ?_
          refine WL_val gd0 ((o_pickT (v := .bool (decide (x12 = 11))) rfl hb25 rfl) _) rfl ?_
          refine WL_val gd0 ((o_move (v := .bool (decide (x12 = 11))) rfl) _) rfl ?_
          refine bsplit (decide (x12 = 11)) (fun hb26 => ?_) (fun hb26 => ?_)
          · rw [if_pos (of_decide_eq_true hb26)] at h
            refine WL_val (gdY (b := (decide (x12 = 11))) 43 rfl rfl hb26) ((o_move (v := .int .i64 x14) rfl) _) rfl ?_
            refine WL_val (gdY (b := (decide (x12 = 11))) 43 rfl rfl hb26) ((o_eql rfl rfl) _) rfl ?_
            refine WL_val gd0 ((o_pickT (v := .bool (decide (x14 = 0))) rfl hb26 rfl) _) rfl ?_
            refine WL_val gd0 ((o_move (v := .bool (decide (x14 = 0))) rfl) _) rfl ?_
            refine bsplit (decide (x14 = 0)) (fun hb27 => ?_) (fun hb27 => ?_)
            · rw [if_pos (of_decide_eq_true hb27)] at h
              refine WL_val (gdY (b := (decide (x14 = 0))) 47 rfl rfl hb27) ((o_move (v := .int .i64 x16) rfl) _) rfl ?_
              refine WL_val (gdY (b := (decide (x14 = 0))) 47 rfl rfl hb27) ((o_eql rfl rfl) _) rfl ?_
              refine WL_val gd0 ((o_pickT (v := .bool (decide (x16 = 0))) rfl hb27 rfl) _) rfl ?_
              refine WL_val gd0 ((o_move (v := .bool (decide (x16 = 0))) rfl) _) rfl ?_
              refine bsplit (decide (x16 = 0)) (fun hb28 => ?_) (fun hb28 => ?_)
              · rw [if_pos (of_decide_eq_true hb28)] at h
                refine WL_val (gdY (b := (decide (x16 = 0))) 51 rfl rfl hb28) ((o_move (v := .int .i64 x18) rfl) _) rfl ?_
                refine WL_val (gdY (b := (decide (x16 = 0))) 51 rfl rfl hb28) ((o_eql rfl rfl) _) rfl ?_
                refine WL_val gd0 ((o_pickT (v := .bool (decide (x18 = 0))) rfl hb28 rfl) _) rfl ?_
                refine WL_val gd0 ((o_move (v := .bool (decide (x18 = 0))) rfl) _) rfl ?_
                refine bsplit (decide (x18 = 0)) (fun hb29 => ?_) (fun hb29 => ?_)
                · rw [if_pos (of_decide_eq_true hb29)] at h
                  refine WL_val (gdY (b := (decide (x18 = 0))) 55 rfl rfl hb29) ((o_move (v := .pointer m3) rfl) _) rfl ?_
                  refine WL_call (gdY (b := (decide (x18 = 0))) 55 rfl rfl hb29) (o_call Try.call17 (argCons rfl argNil) _) rfl (h.mono ?_)
                  rintro _ w30 ⟨x31, rfl, h⟩
                  refine WL_val (gdY (b := (decide (x18 = 0))) 55 rfl rfl hb29) ((o_eql rfl rfl) _) rfl ?_
                  refine WL_val gd0 ((o_pickT (v := .bool (decide (x31 = 4))) rfl hb29 rfl) _) rfl ?_
                  refine WL_val gd0 ((o_move (v := .bool (decide (x31 = 4))) rfl) _) rfl ?_
                  refine bsplit (decide (x31 = 4)) (fun hb32 => ?_) (fun hb32 => ?_)
                  · rw [if_pos (of_decide_eq_true hb32)] at h
                    refine WL_val (gdY (b := (decide (x31 = 4))) 60 rfl rfl hb32) ((o_move (v := .slice l_a20 l_n21 l_c22) rfl) _) rfl ?_
                    refine WL_val (gdY (b := (decide (x31 = 4))) 60 rfl rfl hb32) ((o_len Try.underlying43 rfl) _) rfl ?_
                    refine WL_val (gdY (b := (decide (x31 = 4))) 60 rfl rfl hb32) ((o_eql rfl rfl) _) rfl ?_
                    refine WL_val gd0 ((o_pickT (v := .bool (decide ((l_n21 : Int) = 4))) rfl hb32 rfl) _) rfl ?_
                    refine WL_val gd0 ((o_move (v := .bool (decide ((l_n21 : Int) = 4))) rfl) _) rfl ?_
                    refine bsplit (decide ((l_n21 : Int) = 4)) (fun hb33 => ?_) (fun hb33 => ?_)
                    · rw [if_pos (of_decide_eq_true hb33)] at h
                      refine WL_val (gdY (b := (decide ((l_n21 : Int) = 4))) 65 rfl rfl hb33) ((o_move (v := .slice l_a20 l_n21 l_c22) rfl) _) rfl ?_
                      obtain ⟨p36, q37, h⟩ := h
                      obtain ⟨l34, u35, h⟩ := h
                      refine WL_val (gdY (b := (decide ((l_n21 : Int) = 4))) 65 rfl rfl hb33) ((o_indexAddr Try.underlying43 Try.sizeOf46 (by exact (congrArg (fun z => Value.slice z l_n21 l_c22) q37)) rfl l34 u35) _) rfl ?_
                      obtain ⟨x38, x39, x40, hc41, h⟩ := h
                      refine WL_val (gdY (b := (decide ((l_n21 : Int) = 4))) 65 rfl rfl hb33) (o_loadAgg (vs := [.int .i64 x38, .int .i64 x39, .int .i64 x40]) Try.isAgg46 Try.sizeOf46 rfl hc41) rfl ?_
                      refine WL_val (gdY (b := (decide ((l_n21 : Int) = 4))) 65 rfl rfl hb33) ((o_build (ps := [(0, .int .i64 5), (1, .int .i64 0), (2, .int .i64 1)]) (v := .agg #[.int .i64 5, .int .i64 0, .int .i64 1]) (partCons rfl (partCons rfl (partCons rfl partNil))) (fun w => by kernel_rfl)) _) rfl ?_
                      obtain ⟨eq42, c43, h⟩ := h
                      refine WL_val (gdY (b := (decide ((l_n21 : Int) = 4))) 65 rfl rfl hb33) ((o_eqlAgg (xs := #[.int .i64 x38, .int .i64 x39, .int .i64 x40]) (ys := #[.int .i64 5, .int .i64 0, .int .i64 1]) Try.eqGuardType46 rfl rfl c43) _) rfl ?_
                      refine WL_val gd0 ((o_pickT (v := .bool eq42) rfl hb33 rfl) _) rfl ?_
                      refine WL_val gd0 ((o_move (v := .bool eq42) rfl) _) rfl ?_
                      refine bsplit eq42 (fun hb44 => ?_) (fun hb44 => ?_)
                      · rw [if_pos hb44] at h
                        refine WL_val (gdY (b := eq42) 72 rfl rfl hb44) ((o_move (v := .slice l_a20 l_n21 l_c22) rfl) _) rfl ?_
                        obtain ⟨l45, u46, h⟩ := h
                        refine WL_val (gdY (b := eq42) 72 rfl rfl hb44) ((o_indexAddr Try.underlying43 Try.sizeOf46 (by exact (congrArg (fun z => Value.slice z l_n21 l_c22) q37)) rfl l45 u46) _) rfl ?_
                        obtain ⟨x47, x48, x49, hc50, h⟩ := h
                        refine WL_val (gdY (b := eq42) 72 rfl rfl hb44) (o_loadAgg (vs := [.int .i64 x47, .int .i64 x48, .int .i64 x49]) Try.isAgg46 Try.sizeOf46 rfl hc50) rfl ?_
                        refine WL_val (gdY (b := eq42) 72 rfl rfl hb44) ((o_build (ps := [(0, .int .i64 9), (1, .int .i64 3), (2, .int .i64 4)]) (v := .agg #[.int .i64 9, .int .i64 3, .int .i64 4]) (partCons rfl (partCons rfl (partCons rfl partNil))) (fun w => by kernel_rfl)) _) rfl ?_
                        obtain ⟨eq51, c52, h⟩ := h
                        refine WL_val (gdY (b := eq42) 72 rfl rfl hb44) ((o_eqlAgg (xs := #[.int .i64 x47, .int .i64 x48, .int .i64 x49]) (ys := #[.int .i64 9, .int .i64 3, .int .i64 4]) Try.eqGuardType46 rfl rfl c52) _) rfl ?_
                        refine WL_val gd0 ((o_pickT (v := .bool eq51) rfl hb44 rfl) _) rfl ?_
                        refine WL_val gd0 ((o_move (v := .bool eq51) rfl) _) rfl ?_
                        refine bsplit eq51 (fun hb53 => ?_) (fun hb53 => ?_)
                        · rw [if_pos hb53] at h
                          refine WL_val (gdY (b := eq51) 79 rfl rfl hb53) ((o_move (v := .pointer m3) rfl) _) rfl ?_
                          refine WL_call (gdY (b := eq51) 79 rfl rfl hb53) (o_call Try.call16 (argCons rfl (argCons rfl (argCons rfl argNil))) _) rfl (h.mono ?_)
                          rintro _ w54 ⟨x55, rfl, h⟩
                          refine WL_val (gdY (b := eq51) 79 rfl rfl hb53) ((o_eql rfl rfl) _) rfl ?_
                          refine WL_val gd0 ((o_pickT (v := .bool (decide (x55 = 1))) rfl hb53 rfl) _) rfl ?_
                          refine WL_val gd0 ((o_assign (v := .bool (decide (x55 = 1))) rfl) _) rfl ?_
                          refine WL_nil ?_
                          refine nrm ?_
                          refine WC_ret ?_
                          refine rtE ?_
                          exact gv1 rfl rfl h
                        · rw [if_neg (neT hb53)] at h
                          refine WL_skip (gdN (b := eq51) 79 rfl rfl hb53) rfl ?_
                          refine WL_skip (gdN (b := eq51) 79 rfl rfl hb53) rfl ?_
                          refine WL_skip (gdN (b := eq51) 79 rfl rfl hb53) rfl ?_
                          refine WL_val gd0 ((o_pickF (v := .bool false) rfl hb53 rfl) _) rfl ?_
                          refine WL_val gd0 ((o_assign (v := .bool false) rfl) _) rfl ?_
                          refine WL_nil ?_
                          refine nrm ?_
                          refine WC_ret ?_
                          refine rtE ?_
                          exact gv1 rfl rfl h
                      · rw [if_neg (neT hb44)] at h
                        refine WL_skip (gdN (b := eq42) 72 rfl rfl hb44) rfl ?_
                        refine WL_skip (gdN (b := eq42) 72 rfl rfl hb44) rfl ?_
                        refine WL_skip (gdN (b := eq42) 72 rfl rfl hb44) rfl ?_
                        refine WL_skip (gdN (b := eq42) 72 rfl rfl hb44) rfl ?_
                        refine WL_skip (gdN (b := eq42) 72 rfl rfl hb44) rfl ?_
                        refine WL_val gd0 ((o_pickF (v := .bool false) rfl hb44 rfl) _) rfl ?_
                        refine WL_val gd0 ((o_move (v := .bool false) rfl) _) rfl ?_
                        refine WL_skip (gdN (b := false) 79 rfl rfl rfl) rfl ?_
                        refine WL_skip (gdN (b := false) 79 rfl rfl rfl) rfl ?_
                        refine WL_skip (gdN (b := false) 79 rfl rfl rfl) rfl ?_
                        refine WL_val gd0 ((o_pickF (v := .bool false) rfl rfl rfl) _) rfl ?_
                        refine WL_val gd0 ((o_assign (v := .bool false) rfl) _) rfl ?_
                        refine WL_nil ?_
                        refine nrm ?_
                        refine WC_ret ?_
                        refine rtE ?_
                        exact gv1 rfl rfl h
                    · rw [if_neg (of_decide_eq_false hb33)] at h
                      refine WL_skip (gdN (b := (decide ((l_n21 : Int) = 4))) 65 rfl rfl hb33) rfl ?_
                      refine WL_skip (gdN (b := (decide ((l_n21 : Int) = 4))) 65 rfl rfl hb33) rfl ?_
                      refine WL_skip (gdN (b := (decide ((l_n21 : Int) = 4))) 65 rfl rfl hb33) rfl ?_
                      refine WL_skip (gdN (b := (decide ((l_n21 : Int) = 4))) 65 rfl rfl hb33) rfl ?_
                      refine WL_skip (gdN (b := (decide ((l_n21 : Int) = 4))) 65 rfl rfl hb33) rfl ?_
                      refine WL_val gd0 ((o_pickF (v := .bool false) rfl hb33 rfl) _) rfl ?_
                      refine WL_val gd0 ((o_move (v := .bool false) rfl) _) rfl ?_
                      refine WL_skip (gdN (b := false) 72 rfl rfl rfl) rfl ?_
                      refine WL_skip (gdN (b := false) 72 rfl rfl rfl) rfl ?_
                      refine WL_skip (gdN (b := false) 72 rfl rfl rfl) rfl ?_
                      refine WL_skip (gdN (b := false) 72 rfl rfl rfl) rfl ?_
                      refine WL_skip (gdN (b := false) 72 rfl rfl rfl) rfl ?_
                      refine WL_val gd0 ((o_pickF (v := .bool false) rfl rfl rfl) _) rfl ?_
                      refine WL_val gd0 ((o_move (v := .bool false) rfl) _) rfl ?_
                      refine WL_skip (gdN (b := false) 79 rfl rfl rfl) rfl ?_
                      refine WL_skip (gdN (b := false) 79 rfl rfl rfl) rfl ?_
                      refine WL_skip (gdN (b := false) 79 rfl rfl rfl) rfl ?_
                      refine WL_val gd0 ((o_pickF (v := .bool false) rfl rfl rfl) _) rfl ?_
                      refine WL_val gd0 ((o_assign (v := .bool false) rfl) _) rfl ?_
                      refine WL_nil ?_
                      refine nrm ?_
                      refine WC_ret ?_
                      refine rtE ?_
                      exact gv1 rfl rfl h
                  · rw [if_neg (of_decide_eq_false hb32)] at h
                    refine WL_skip (gdN (b := (decide (x31 = 4))) 60 rfl rfl hb32) rfl ?_
                    refine WL_skip (gdN (b := (decide (x31 = 4))) 60 rfl rfl hb32) rfl ?_
                    refine WL_skip (gdN (b := (decide (x31 = 4))) 60 rfl rfl hb32) rfl ?_
                    refine WL_val gd0 ((o_pickF (v := .bool false) rfl hb32 rfl) _) rfl ?_
                    refine WL_val gd0 ((o_move (v := .bool false) rfl) _) rfl ?_
                    refine WL_skip (gdN (b := false) 65 rfl rfl rfl) rfl ?_
                    refine WL_skip (gdN (b := false) 65 rfl rfl rfl) rfl ?_
                    refine WL_skip (gdN (b := false) 65 rfl rfl rfl) rfl ?_
                    refine WL_skip (gdN (b := false) 65 rfl rfl rfl) rfl ?_
                    refine WL_skip (gdN (b := false) 65 rfl rfl rfl) rfl ?_
                    refine WL_val gd0 ((o_pickF (v := .bool false) rfl rfl rfl) _) rfl ?_
                    refine WL_val gd0 ((o_move (v := .bool false) rfl) _) rfl ?_
                    refine WL_skip (gdN (b := false) 72 rfl rfl rfl) rfl ?_
                    refine WL_skip (gdN (b := false) 72 rfl rfl rfl) rfl ?_
                    refine WL_skip (gdN (b := false) 72 rfl rfl rfl) rfl ?_
                    refine WL_skip (gdN (b := false) 72 rfl rfl rfl) rfl ?_
                    refine WL_skip (gdN (b := false) 72 rfl rfl rfl) rfl ?_
                    refine WL_val gd0 ((o_pickF (v := .bool false) rfl rfl rfl) _) rfl ?_
                    refine WL_val gd0 ((o_move (v := .bool false) rfl) _) rfl ?_
                    refine WL_skip (gdN (b := false) 79 rfl rfl rfl) rfl ?_
                    refine WL_skip (gdN (b := false) 79 rfl rfl rfl) rfl ?_
                    refine WL_skip (gdN (b := false) 79 rfl rfl rfl) rfl ?_
                    refine WL_val gd0 ((o_pickF (v := .bool false) rfl rfl rfl) _) rfl ?_
                    refine WL_val gd0 ((o_assign (v := .bool false) rfl) _) rfl ?_
                    refine WL_nil ?_
                    refine nrm ?_
                    refine WC_ret ?_
                    refine rtE ?_
                    exact gv1 rfl rfl h
                · rw [if_neg (of_decide_eq_false hb29)] at h
                  refine WL_skip (gdN (b := (decide (x18 = 0))) 55 rfl rfl hb29) rfl ?_
                  refine WL_skip (gdN (b := (decide (x18 = 0))) 55 rfl rfl hb29) rfl ?_
                  refine WL_skip (gdN (b := (decide (x18 = 0))) 55 rfl rfl hb29) rfl ?_
                  refine WL_val gd0 ((o_pickF (v := .bool false) rfl hb29 rfl) _) rfl ?_
                  refine WL_val gd0 ((o_move (v := .bool false) rfl) _) rfl ?_
                  refine WL_skip (gdN (b := false) 60 rfl rfl rfl) rfl ?_
                  refine WL_skip (gdN (b := false) 60 rfl rfl rfl) rfl ?_
                  refine WL_skip (gdN (b := false) 60 rfl rfl rfl) rfl ?_
                  refine WL_val gd0 ((o_pickF (v := .bool false) rfl rfl rfl) _) rfl ?_
                  refine WL_val gd0 ((o_move (v := .bool false) rfl) _) rfl ?_
                  refine WL_skip (gdN (b := false) 65 rfl rfl rfl) rfl ?_
                  refine WL_skip (gdN (b := false) 65 rfl rfl rfl) rfl ?_
                  refine WL_skip (gdN (b := false) 65 rfl rfl rfl) rfl ?_
                  refine WL_skip (gdN (b := false) 65 rfl rfl rfl) rfl ?_
                  refine WL_skip (gdN (b := false) 65 rfl rfl rfl) rfl ?_
                  refine WL_val gd0 ((o_pickF (v := .bool false) rfl rfl rfl) _) rfl ?_
                  refine WL_val gd0 ((o_move (v := .bool false) rfl) _) rfl ?_
                  refine WL_skip (gdN (b := false) 72 rfl rfl rfl) rfl ?_
                  refine WL_skip (gdN (b := false) 72 rfl rfl rfl) rfl ?_
                  refine WL_skip (gdN (b := false) 72 rfl rfl rfl) rfl ?_
                  refine WL_skip (gdN (b := false) 72 rfl rfl rfl) rfl ?_
                  refine WL_skip (gdN (b := false) 72 rfl rfl rfl) rfl ?_
                  refine WL_val gd0 ((o_pickF (v := .bool false) rfl rfl rfl) _) rfl ?_
                  refine WL_val gd0 ((o_move (v := .bool false) rfl) _) rfl ?_
                  refine WL_skip (gdN (b := false) 79 rfl rfl rfl) rfl ?_
                  refine WL_skip (gdN (b := false) 79 rfl rfl rfl) rfl ?_
                  refine WL_skip (gdN (b := false) 79 rfl rfl rfl) rfl ?_
                  refine WL_val gd0 ((o_pickF (v := .bool false) rfl rfl rfl) _) rfl ?_
                  refine WL_val gd0 ((o_assign (v := .bool false) rfl) _) rfl ?_
                  refine WL_nil ?_
                  refine nrm ?_
                  refine WC_ret ?_
                  refine rtE ?_
                  exact gv1 rfl rfl h
              · rw [if_neg (of_decide_eq_false hb28)] at h
                refine WL_skip (gdN (b := (decide (x16 = 0))) 51 rfl rfl hb28) rfl ?_
                refine WL_skip (gdN (b := (decide (x16 = 0))) 51 rfl rfl hb28) rfl ?_
                refine WL_val gd0 ((o_pickF (v := .bool false) rfl hb28 rfl) _) rfl ?_
                refine WL_val gd0 ((o_move (v := .bool false) rfl) _) rfl ?_
                refine WL_skip (gdN (b := false) 55 rfl rfl rfl) rfl ?_
                refine WL_skip (gdN (b := false) 55 rfl rfl rfl) rfl ?_
                refine WL_skip (gdN (b := false) 55 rfl rfl rfl) rfl ?_
                refine WL_val gd0 ((o_pickF (v := .bool false) rfl rfl rfl) _) rfl ?_
                refine WL_val gd0 ((o_move (v := .bool false) rfl) _) rfl ?_
                refine WL_skip (gdN (b := false) 60 rfl rfl rfl) rfl ?_
                refine WL_skip (gdN (b := false) 60 rfl rfl rfl) rfl ?_
                refine WL_skip (gdN (b := false) 60 rfl rfl rfl) rfl ?_
                refine WL_val gd0 ((o_pickF (v := .bool false) rfl rfl rfl) _) rfl ?_
                refine WL_val gd0 ((o_move (v := .bool false) rfl) _) rfl ?_
                refine WL_skip (gdN (b := false) 65 rfl rfl rfl) rfl ?_
                refine WL_skip (gdN (b := false) 65 rfl rfl rfl) rfl ?_
                refine WL_skip (gdN (b := false) 65 rfl rfl rfl) rfl ?_
                refine WL_skip (gdN (b := false) 65 rfl rfl rfl) rfl ?_
                refine WL_skip (gdN (b := false) 65 rfl rfl rfl) rfl ?_
                refine WL_val gd0 ((o_pickF (v := .bool false) rfl rfl rfl) _) rfl ?_
                refine WL_val gd0 ((o_move (v := .bool false) rfl) _) rfl ?_
                refine WL_skip (gdN (b := false) 72 rfl rfl rfl) rfl ?_
                refine WL_skip (gdN (b := false) 72 rfl rfl rfl) rfl ?_
                refine WL_skip (gdN (b := false) 72 rfl rfl rfl) rfl ?_
                refine WL_skip (gdN (b := false) 72 rfl rfl rfl) rfl ?_
                refine WL_skip (gdN (b := false) 72 rfl rfl rfl) rfl ?_
                refine WL_val gd0 ((o_pickF (v := .bool false) rfl rfl rfl) _) rfl ?_
                refine WL_val gd0 ((o_move (v := .bool false) rfl) _) rfl ?_
                refine WL_skip (gdN (b := false) 79 rfl rfl rfl) rfl ?_
                refine WL_skip (gdN (b := false) 79 rfl rfl rfl) rfl ?_
                refine WL_skip (gdN (b := false) 79 rfl rfl rfl) rfl ?_
                refine WL_val gd0 ((o_pickF (v := .bool false) rfl rfl rfl) _) rfl ?_
                refine WL_val gd0 ((o_assign (v := .bool false) rfl) _) rfl ?_
                refine WL_nil ?_
                refine nrm ?_
                refine WC_ret ?_
                refine rtE ?_
                exact gv1 rfl rfl h
            · rw [if_neg (of_decide_eq_false hb27)] at h
              refine WL_skip (gdN (b := (decide (x14 = 0))) 47 rfl rfl hb27) rfl ?_
              refine WL_skip (gdN (b := (decide (x14 = 0))) 47 rfl rfl hb27) rfl ?_
              refine WL_val gd0 ((o_pickF (v := .bool false) rfl hb27 rfl) _) rfl ?_
              refine WL_val gd0 ((o_move (v := .bool false) rfl) _) rfl ?_
              refine WL_skip (gdN (b := false) 51 rfl rfl rfl) rfl ?_
              refine WL_skip (gdN (b := false) 51 rfl rfl rfl) rfl ?_
              refine WL_val gd0 ((o_pickF (v := .bool false) rfl rfl rfl) _) rfl ?_
              refine WL_val gd0 ((o_move (v := .bool false) rfl) _) rfl ?_
              refine WL_skip (gdN (b := false) 55 rfl rfl rfl) rfl ?_
              refine WL_skip (gdN (b := false) 55 rfl rfl rfl) rfl ?_
              refine WL_skip (gdN (b := false) 55 rfl rfl rfl) rfl ?_
              refine WL_val gd0 ((o_pickF (v := .bool false) rfl rfl rfl) _) rfl ?_
              refine WL_val gd0 ((o_move (v := .bool false) rfl) _) rfl ?_
              refine WL_skip (gdN (b := false) 60 rfl rfl rfl) rfl ?_
              refine WL_skip (gdN (b := false) 60 rfl rfl rfl) rfl ?_
              refine WL_skip (gdN (b := false) 60 rfl rfl rfl) rfl ?_
              refine WL_val gd0 ((o_pickF (v := .bool false) rfl rfl rfl) _) rfl ?_
              refine WL_val gd0 ((o_move (v := .bool false) rfl) _) rfl ?_
              refine WL_skip (gdN (b := false) 65 rfl rfl rfl) rfl ?_
              refine WL_skip (gdN (b := false) 65 rfl rfl rfl) rfl ?_
              refine WL_skip (gdN (b := false) 65 rfl rfl rfl) rfl ?_
              refine WL_skip (gdN (b := false) 65 rfl rfl rfl) rfl ?_
              refine WL_skip (gdN (b := false) 65 rfl rfl rfl) rfl ?_
              refine WL_val gd0 ((o_pickF (v := .bool false) rfl rfl rfl) _) rfl ?_
              refine WL_val gd0 ((o_move (v := .bool false) rfl) _) rfl ?_
              refine WL_skip (gdN (b := false) 72 rfl rfl rfl) rfl ?_
              refine WL_skip (gdN (b := false) 72 rfl rfl rfl) rfl ?_
              refine WL_skip (gdN (b := false) 72 rfl rfl rfl) rfl ?_
              refine WL_skip (gdN (b := false) 72 rfl rfl rfl) rfl ?_
              refine WL_skip (gdN (b := false) 72 rfl rfl rfl) rfl ?_
              refine WL_val gd0 ((o_pickF (v := .bool false) rfl rfl rfl) _) rfl ?_
              refine WL_val gd0 ((o_move (v := .bool false) rfl) _) rfl ?_
              refine WL_skip (gdN (b := false) 79 rfl rfl rfl) rfl ?_
              refine WL_skip (gdN (b := false) 79 rfl rfl rfl) rfl ?_
              refine WL_skip (gdN (b := false) 79 rfl rfl rfl) rfl ?_
              refine WL_val gd0 ((o_pickF (v := .bool false) rfl rfl rfl) _) rfl ?_
              refine WL_val gd0 ((o_assign (v := .bool false) rfl) _) rfl ?_
              refine WL_nil ?_
              refine nrm ?_
              refine WC_ret ?_
              refine rtE ?_
              exact gv1 rfl rfl h
          · rw [if_neg (of_decide_eq_false hb26)] at h
            refine WL_skip (gdN (b := (decide (x12 = 11))) 43 rfl rfl hb26) rfl ?_
            refine WL_skip (gdN (b := (decide (x12 = 11))) 43 rfl rfl hb26) rfl ?_
            refine WL_val gd0 ((o_pickF (v := .bool false) rfl hb26 rfl) _) rfl ?_
            refine WL_val gd0 ((o_move (v := .bool false) rfl) _) rfl ?_
            refine WL_skip (gdN (b := false) 47 rfl rfl rfl) rfl ?_
            refine WL_skip (gdN (b := false) 47 rfl rfl rfl) rfl ?_
            refine WL_val gd0 ((o_pickF (v := .bool false) rfl rfl rfl) _) rfl ?_
            refine WL_val gd0 ((o_move (v := .bool false) rfl) _) rfl ?_
            refine WL_skip (gdN (b := false) 51 rfl rfl rfl) rfl ?_
            refine WL_skip (gdN (b := false) 51 rfl rfl rfl) rfl ?_
            refine WL_val gd0 ((o_pickF (v := .bool false) rfl rfl rfl) _) rfl ?_
            refine WL_val gd0 ((o_move (v := .bool false) rfl) _) rfl ?_
            refine WL_skip (gdN (b := false) 55 rfl rfl rfl) rfl ?_
            refine WL_skip (gdN (b := false) 55 rfl rfl rfl) rfl ?_
            refine WL_skip (gdN (b := false) 55 rfl rfl rfl) rfl ?_
            refine WL_val gd0 ((o_pickF (v := .bool false) rfl rfl rfl) _) rfl ?_
            refine WL_val gd0 ((o_move (v := .bool false) rfl) _) rfl ?_
            refine WL_skip (gdN (b := false) 60 rfl rfl rfl) rfl ?_
            refine WL_skip (gdN (b := false) 60 rfl rfl rfl) rfl ?_
            refine WL_skip (gdN (b := false) 60 rfl rfl rfl) rfl ?_
            refine WL_val gd0 ((o_pickF (v := .bool false) rfl rfl rfl) _) rfl ?_
            refine WL_val gd0 ((o_move (v := .bool false) rfl) _) rfl ?_
            refine WL_skip (gdN (b := false) 65 rfl rfl rfl) rfl ?_
            refine WL_skip (gdN (b := false) 65 rfl rfl rfl) rfl ?_
            refine WL_skip (gdN (b := false) 65 rfl rfl rfl) rfl ?_
            refine WL_skip (gdN (b := false) 65 rfl rfl rfl) rfl ?_
            refine WL_skip (gdN (b := false) 65 rfl rfl rfl) rfl ?_
            refine WL_val gd0 ((o_pickF (v := .bool false) rfl rfl rfl) _) rfl ?_
            refine WL_val gd0 ((o_move (v := .bool false) rfl) _) rfl ?_
            refine WL_skip (gdN (b := false) 72 rfl rfl rfl) rfl ?_
            refine WL_skip (gdN (b := false) 72 rfl rfl rfl) rfl ?_
            refine WL_skip (gdN (b := false) 72 rfl rfl rfl) rfl ?_
            refine WL_skip (gdN (b := false) 72 rfl rfl rfl) rfl ?_
            refine WL_skip (gdN (b := false) 72 rfl rfl rfl) rfl ?_
            refine WL_val gd0 ((o_pickF (v := .bool false) rfl rfl rfl) _) rfl ?_
            refine WL_val gd0 ((o_move (v := .bool false) rfl) _) rfl ?_
            refine WL_skip (gdN (b := false) 79 rfl rfl rfl) rfl ?_
            refine WL_skip (gdN (b := false) 79 rfl rfl rfl) rfl ?_
            refine WL_skip (gdN (b := false) 79 rfl rfl rfl) rfl ?_
            refine WL_val gd0 ((o_pickF (v := .bool false) rfl rfl rfl) _) rfl ?_
            refine WL_val gd0 ((o_assign (v := .bool false) rfl) _) rfl ?_
            refine WL_nil ?_
            refine nrm ?_
            refine WC_ret ?_
            refine rtE ?_
            exact gv1 rfl rfl h
        · rw [if_neg (of_decide_eq_false hb25)] at h
          refine WL_skip (gdN (b := (decide (x10 = 0))) 39 rfl rfl hb25) rfl ?_
          refine WL_skip (gdN (b := (decide (x10 = 0))) 39 rfl rfl hb25) rfl ?_
          refine WL_val gd0 ((o_pickF (v := .bool false) rfl hb25 rfl) _) rfl ?_
          refine WL_val gd0 ((o_move (v := .bool false) rfl) _) rfl ?_
          refine WL_skip (gdN (b := false) 43 rfl rfl rfl) rfl ?_
          refine WL_skip (gdN (b := false) 43 rfl rfl rfl) rfl ?_
          refine WL_val gd0 ((o_pickF (v := .bool false) rfl rfl rfl) _) rfl ?_
          refine WL_val gd0 ((o_move (v := .bool false) rfl) _) rfl ?_
          refine WL_skip (gdN (b := false) 47 rfl rfl rfl) rfl ?_
          refine WL_skip (gdN (b := false) 47 rfl rfl rfl) rfl ?_
          refine WL_val gd0 ((o_pickF (v := .bool false) rfl rfl rfl) _) rfl ?_
          refine WL_val gd0 ((o_move (v := .bool false) rfl) _) rfl ?_
          refine WL_skip (gdN (b := false) 51 rfl rfl rfl) rfl ?_
          refine WL_skip (gdN (b := false) 51 rfl rfl rfl) rfl ?_
          refine WL_val gd0 ((o_pickF (v := .bool false) rfl rfl rfl) _) rfl ?_
          refine WL_val gd0 ((o_move (v := .bool false) rfl) _) rfl ?_
          refine WL_skip (gdN (b := false) 55 rfl rfl rfl) rfl ?_
          refine WL_skip (gdN (b := false) 55 rfl rfl rfl) rfl ?_
          refine WL_skip (gdN (b := false) 55 rfl rfl rfl) rfl ?_
          refine WL_val gd0 ((o_pickF (v := .bool false) rfl rfl rfl) _) rfl ?_
          refine WL_val gd0 ((o_move (v := .bool false) rfl) _) rfl ?_
          refine WL_skip (gdN (b := false) 60 rfl rfl rfl) rfl ?_
          refine WL_skip (gdN (b := false) 60 rfl rfl rfl) rfl ?_
          refine WL_skip (gdN (b := false) 60 rfl rfl rfl) rfl ?_
          refine WL_val gd0 ((o_pickF (v := .bool false) rfl rfl rfl) _) rfl ?_
          refine WL_val gd0 ((o_move (v := .bool false) rfl) _) rfl ?_
          refine WL_skip (gdN (b := false) 65 rfl rfl rfl) rfl ?_
          refine WL_skip (gdN (b := false) 65 rfl rfl rfl) rfl ?_
          refine WL_skip (gdN (b := false) 65 rfl rfl rfl) rfl ?_
          refine WL_skip (gdN (b := false) 65 rfl rfl rfl) rfl ?_
          refine WL_skip (gdN (b := false) 65 rfl rfl rfl) rfl ?_
          refine WL_val gd0 ((o_pickF (v := .bool false) rfl rfl rfl) _) rfl ?_
          refine WL_val gd0 ((o_move (v := .bool false) rfl) _) rfl ?_
          refine WL_skip (gdN (b := false) 72 rfl rfl rfl) rfl ?_
          refine WL_skip (gdN (b := false) 72 rfl rfl rfl) rfl ?_
          refine WL_skip (gdN (b := false) 72 rfl rfl rfl) rfl ?_
          refine WL_skip (gdN (b := false) 72 rfl rfl rfl) rfl ?_
          refine WL_skip (gdN (b := false) 72 rfl rfl rfl) rfl ?_
          refine WL_val gd0 ((o_pickF (v := .bool false) rfl rfl rfl) _) rfl ?_
          refine WL_val gd0 ((o_move (v := .bool false) rfl) _) rfl ?_
          refine WL_skip (gdN (b := false) 79 rfl rfl rfl) rfl ?_
          refine WL_skip (gdN (b := false) 79 rfl rfl rfl) rfl ?_
          refine WL_skip (gdN (b := false) 79 rfl rfl rfl) rfl ?_
          refine WL_val gd0 ((o_pickF (v := .bool false) rfl rfl rfl) _) rfl ?_
          refine WL_val gd0 ((o_assign (v := .bool false) rfl) _) rfl ?_
          refine WL_nil ?_
          refine nrm ?_
          refine WC_ret ?_
          refine rtE ?_
          exact gv1 rfl rfl h
      · rw [if_neg (of_decide_eq_false hb24)] at h
        refine WL_skip (gdN (b := (decide (x8 = 11))) 35 rfl rfl hb24) rfl ?_
        refine WL_skip (gdN (b := (decide (x8 = 11))) 35 rfl rfl hb24) rfl ?_
        refine WL_val gd0 ((o_pickF (v := .bool false) rfl hb24 rfl) _) rfl ?_
        refine WL_val gd0 ((o_move (v := .bool false) rfl) _) rfl ?_
        refine WL_skip (gdN (b := false) 39 rfl rfl rfl) rfl ?_
        refine WL_skip (gdN (b := false) 39 rfl rfl rfl) rfl ?_
        refine WL_val gd0 ((o_pickF (v := .bool false) rfl rfl rfl) _) rfl ?_
        refine WL_val gd0 ((o_move (v := .bool false) rfl) _) rfl ?_
        refine WL_skip (gdN (b := false) 43 rfl rfl rfl) rfl ?_
        refine WL_skip (gdN (b := false) 43 rfl rfl rfl) rfl ?_
        refine WL_val gd0 ((o_pickF (v := .bool false) rfl rfl rfl) _) rfl ?_
        refine WL_val gd0 ((o_move (v := .bool false) rfl) _) rfl ?_
        refine WL_skip (gdN (b := false) 47 rfl rfl rfl) rfl ?_
        refine WL_skip (gdN (b := false) 47 rfl rfl rfl) rfl ?_
        refine WL_val gd0 ((o_pickF (v := .bool false) rfl rfl rfl) _) rfl ?_
        refine WL_val gd0 ((o_move (v := .bool false) rfl) _) rfl ?_
        refine WL_skip (gdN (b := false) 51 rfl rfl rfl) rfl ?_
        refine WL_skip (gdN (b := false) 51 rfl rfl rfl) rfl ?_
        refine WL_val gd0 ((o_pickF (v := .bool false) rfl rfl rfl) _) rfl ?_
        refine WL_val gd0 ((o_move (v := .bool false) rfl) _) rfl ?_
        refine WL_skip (gdN (b := false) 55 rfl rfl rfl) rfl ?_
        refine WL_skip (gdN (b := false) 55 rfl rfl rfl) rfl ?_
        refine WL_skip (gdN (b := false) 55 rfl rfl rfl) rfl ?_
        refine WL_val gd0 ((o_pickF (v := .bool false) rfl rfl rfl) _) rfl ?_
        refine WL_val gd0 ((o_move (v := .bool false) rfl) _) rfl ?_
        refine WL_skip (gdN (b := false) 60 rfl rfl rfl) rfl ?_
        refine WL_skip (gdN (b := false) 60 rfl rfl rfl) rfl ?_
        refine WL_skip (gdN (b := false) 60 rfl rfl rfl) rfl ?_
        refine WL_val gd0 ((o_pickF (v := .bool false) rfl rfl rfl) _) rfl ?_
        refine WL_val gd0 ((o_move (v := .bool false) rfl) _) rfl ?_
        refine WL_skip (gdN (b := false) 65 rfl rfl rfl) rfl ?_
        refine WL_skip (gdN (b := false) 65 rfl rfl rfl) rfl ?_
        refine WL_skip (gdN (b := false) 65 rfl rfl rfl) rfl ?_
        refine WL_skip (gdN (b := false) 65 rfl rfl rfl) rfl ?_
        refine WL_skip (gdN (b := false) 65 rfl rfl rfl) rfl ?_
        refine WL_val gd0 ((o_pickF (v := .bool false) rfl rfl rfl) _) rfl ?_
        refine WL_val gd0 ((o_move (v := .bool false) rfl) _) rfl ?_
        refine WL_skip (gdN (b := false) 72 rfl rfl rfl) rfl ?_
        refine WL_skip (gdN (b := false) 72 rfl rfl rfl) rfl ?_
        refine WL_skip (gdN (b := false) 72 rfl rfl rfl) rfl ?_
        refine WL_skip (gdN (b := false) 72 rfl rfl rfl) rfl ?_
        refine WL_skip (gdN (b := false) 72 rfl rfl rfl) rfl ?_
        refine WL_val gd0 ((o_pickF (v := .bool false) rfl rfl rfl) _) rfl ?_
        refine WL_val gd0 ((o_move (v := .bool false) rfl) _) rfl ?_
        refine WL_skip (gdN (b := false) 79 rfl rfl rfl) rfl ?_
        refine WL_skip (gdN (b := false) 79 rfl rfl rfl) rfl ?_
        refine WL_skip (gdN (b := false) 79 rfl rfl rfl) rfl ?_
        refine WL_val gd0 ((o_pickF (v := .bool false) rfl rfl rfl) _) rfl ?_
        refine WL_val gd0 ((o_assign (v := .bool false) rfl) _) rfl ?_
        refine WL_nil ?_
        refine nrm ?_
        refine WC_ret ?_
        refine rtE ?_
        exact gv1 rfl rfl h
    · rw [if_neg (of_decide_eq_false hb23)] at h
      refine WL_skip (gdN (b := (decide (x6 = 0))) 31 rfl rfl hb23) rfl ?_
      refine WL_skip (gdN (b := (decide (x6 = 0))) 31 rfl rfl hb23) rfl ?_
      refine WL_val gd0 ((o_pickF (v := .bool false) rfl hb23 rfl) _) rfl ?_
      refine WL_val gd0 ((o_move (v := .bool false) rfl) _) rfl ?_
      refine WL_skip (gdN (b := false) 35 rfl rfl rfl) rfl ?_
      refine WL_skip (gdN (b := false) 35 rfl rfl rfl) rfl ?_
      refine WL_val gd0 ((o_pickF (v := .bool false) rfl rfl rfl) _) rfl ?_
      refine WL_val gd0 ((o_move (v := .bool false) rfl) _) rfl ?_
      refine WL_skip (gdN (b := false) 39 rfl rfl rfl) rfl ?_
      refine WL_skip (gdN (b := false) 39 rfl rfl rfl) rfl ?_
      refine WL_val gd0 ((o_pickF (v := .bool false) rfl rfl rfl) _) rfl ?_
      refine WL_val gd0 ((o_move (v := .bool false) rfl) _) rfl ?_
      refine WL_skip (gdN (b := false) 43 rfl rfl rfl) rfl ?_
      refine WL_skip (gdN (b := false) 43 rfl rfl rfl) rfl ?_
      refine WL_val gd0 ((o_pickF (v := .bool false) rfl rfl rfl) _) rfl ?_
      refine WL_val gd0 ((o_move (v := .bool false) rfl) _) rfl ?_
      refine WL_skip (gdN (b := false) 47 rfl rfl rfl) rfl ?_
      refine WL_skip (gdN (b := false) 47 rfl rfl rfl) rfl ?_
      refine WL_val gd0 ((o_pickF (v := .bool false) rfl rfl rfl) _) rfl ?_
      refine WL_val gd0 ((o_move (v := .bool false) rfl) _) rfl ?_
      refine WL_skip (gdN (b := false) 51 rfl rfl rfl) rfl ?_
      refine WL_skip (gdN (b := false) 51 rfl rfl rfl) rfl ?_
      refine WL_val gd0 ((o_pickF (v := .bool false) rfl rfl rfl) _) rfl ?_
      refine WL_val gd0 ((o_move (v := .bool false) rfl) _) rfl ?_
      refine WL_skip (gdN (b := false) 55 rfl rfl rfl) rfl ?_
      refine WL_skip (gdN (b := false) 55 rfl rfl rfl) rfl ?_
      refine WL_skip (gdN (b := false) 55 rfl rfl rfl) rfl ?_
      refine WL_val gd0 ((o_pickF (v := .bool false) rfl rfl rfl) _) rfl ?_
      refine WL_val gd0 ((o_move (v := .bool false) rfl) _) rfl ?_
      refine WL_skip (gdN (b := false) 60 rfl rfl rfl) rfl ?_
      refine WL_skip (gdN (b := false) 60 rfl rfl rfl) rfl ?_
      refine WL_skip (gdN (b := false) 60 rfl rfl rfl) rfl ?_
      refine WL_val gd0 ((o_pickF (v := .bool false) rfl rfl rfl) _) rfl ?_
      refine WL_val gd0 ((o_move (v := .bool false) rfl) _) rfl ?_
      refine WL_skip (gdN (b := false) 65 rfl rfl rfl) rfl ?_
      refine WL_skip (gdN (b := false) 65 rfl rfl rfl) rfl ?_
      refine WL_skip (gdN (b := false) 65 rfl rfl rfl) rfl ?_
      refine WL_skip (gdN (b := false) 65 rfl rfl rfl) rfl ?_
      refine WL_skip (gdN (b := false) 65 rfl rfl rfl) rfl ?_
      refine WL_val gd0 ((o_pickF (v := .bool false) rfl rfl rfl) _) rfl ?_
      refine WL_val gd0 ((o_move (v := .bool false) rfl) _) rfl ?_
      refine WL_skip (gdN (b := false) 72 rfl rfl rfl) rfl ?_
      refine WL_skip (gdN (b := false) 72 rfl rfl rfl) rfl ?_
      refine WL_skip (gdN (b := false) 72 rfl rfl rfl) rfl ?_
      refine WL_skip (gdN (b := false) 72 rfl rfl rfl) rfl ?_
      refine WL_skip (gdN (b := false) 72 rfl rfl rfl) rfl ?_
      refine WL_val gd0 ((o_pickF (v := .bool false) rfl rfl rfl) _) rfl ?_
      refine WL_val gd0 ((o_move (v := .bool false) rfl) _) rfl ?_
      refine WL_skip (gdN (b := false) 79 rfl rfl rfl) rfl ?_
      refine WL_skip (gdN (b := false) 79 rfl rfl rfl) rfl ?_
      refine WL_skip (gdN (b := false) 79 rfl rfl rfl) rfl ?_
      refine WL_val gd0 ((o_pickF (v := .bool false) rfl rfl rfl) _) rfl ?_
      refine WL_val gd0 ((o_assign (v := .bool false) rfl) _) rfl ?_
      refine WL_nil ?_
      refine nrm ?_
      refine WC_ret ?_
      refine rtE ?_
      exact gv1 rfl rfl h

/-- spacecraft spacecraftlaw45.step -/
def F11 (m1 : Option Addr) (x2 : Option Addr) (s3 : Bool) (s4 : Int) (s5 : Int) (w6 : World) (k : Value → World → Prop) : Prop :=
  New w6 32 [.bool s3, .int .i64 s4, .int .i64 s5] (fun p7 w8 => ∃ (x9 : Bool), w8.cell? p7 = some (.bool x9) ∧ if x9 = true then
  ∃ (x12 : Int), w8.cell? (p7.add 2) = some (.int .i64 x12) ∧ Does Try.prog 20 #[.pointer x2, .int .i64 x12] w8 (fun v w14 => v = .tuple #[] ∧ ∃ (x15 : Int), w14.cell? (p7.add 2) = some (.int .i64 x15) ∧ Does Try.prog 15 #[.pointer m1, .int .i64 x15] w14 (fun v w17 => ∃ (x18 : Int), v = .int .i64 x18 ∧ k (.bool (decide (x18 = 0))) w17))
else
  ∃ (x19 : Int), w8.drew.cell? (p7.add 1) = some (.int .i64 x19) ∧ ∃ (x21 : Int), w8.drew.cell? (p7.add 2) = some (.int .i64 x21) ∧ ∃ (x23 : Int), w8.drew.cell? (p7.add 1) = some (.int .i64 x23) ∧ ∃ (x25 : Int), w8.drew.cell? (p7.add 2) = some (.int .i64 x25) ∧ Does Try.prog 16 #[.pointer m1, .int .i64 x19, .int .i64 x21] w8.drew (fun v w27 => ∃ (x28 : Int), v = .int .i64 x28 ∧ w27.cell? (p7.add 1) = some (.int .i64 x23) ∧ w27.cell? (p7.add 2) = some (.int .i64 x25) ∧ Does Try.prog 21 #[.pointer x2, .int .i64 x23, .int .i64 x25] w27 (fun v w31 => ∃ (x32 : Int), v = .int .i64 x32 ∧ k (.bool (decide (x28 = x32))) w31)))
set_option maxRecDepth 100000 in
set_option maxHeartbeats 2000000 in
theorem w11 (m1 : Option Addr) (x2 : Option Addr) (s3 : Bool) (s4 : Int) (s5 : Int) (w6 : World) (k : Value → World → Prop) (h : F11 m1 x2 s3 s4 s5 w6 k) : Does Try.prog 11 #[.pointer m1, .pointer x2, .agg #[.bool s3, .int .i64 s4, .int .i64 s5]] w6 k := by
  refine enter 31 Try.func11 rfl rfl rfl ?_
  intro ρ hρ
  have e0 := hρ 0 _ rfl
  have e1 := hρ 1 _ rfl
  have e2 := hρ 2 _ rfl
  unfold F11 at h
  refine WC_seq ?_
  refine WC_region ?_
  have h := New.out h
  refine WL_val gd0 (o_box (v := .agg #[.bool s3, .int .i64 s4, .int .i64 s5]) (cs := [.bool s3, .int .i64 s4, .int .i64 s5]) (by exact e2) rfl) rfl ?_
  generalize hp7 : fresh w6 = p7 at h ⊢
  generalize hw8 : push w6 32 [.bool s3, .int .i64 s4, .int .i64 s5] = w8 at h ⊢
  try dsimp only at h
  refine WL_val gd0 ((o_assign (v := .bool false) rfl) _) rfl ?_
  refine WL_nil ?_
  refine nrm ?_
  refine WC_seq ?_
  refine WC_seq ?_
  refine WC_region ?_
  refine WL_val gd0 ((o_fieldAddr0 Try.underlying32 rfl Try.sizeOf4 rfl rfl rfl) _) rfl ?_
  obtain ⟨x9, hc10, h⟩ := h
  refine WL_val gd0 (o_load Try.isAgg4 rfl hc10) rfl ?_
  refine WL_nil ?_
  refine nrm ?_
  refine WC_cond (t := x9) rfl (fun hb11 => ?_) (fun hb11 => ?_)
  · rw [if_pos hb11] at h
    refine WC_seq ?_
    refine WC_region ?_
    refine WL_val gd0 ((o_move (v := .pointer x2) (by exact e1)) _) rfl ?_
    refine WL_val gd0 ((o_fieldAddr 2 Try.underlying32 rfl Try.sizeOf3 rfl rfl rfl) _) rfl ?_
    obtain ⟨x12, hc13, h⟩ := h
    refine WL_val gd0 (o_load Try.isAgg3 rfl hc13) rfl ?_
    refine WL_call gd0 (o_call Try.call20 (argCons rfl (argCons rfl argNil)) _) rfl (h.mono ?_)
    rintro _ w14 ⟨rfl, h⟩
    refine WL_nil ?_
    refine nrm ?_
    refine WC_seq ?_
    refine WC_region ?_
    refine WL_val gd0 ((o_move (v := .pointer m1) (by exact e0)) _) rfl ?_
    refine WL_val gd0 ((o_fieldAddr 2 Try.underlying32 rfl Try.sizeOf3 rfl rfl rfl) _) rfl ?_
    obtain ⟨x15, hc16, h⟩ := h
    refine WL_val gd0 (o_load Try.isAgg3 rfl hc16) rfl ?_
    refine WL_call gd0 (o_call Try.call15 (argCons rfl (argCons rfl argNil)) _) rfl (h.mono ?_)
    rintro _ w17 ⟨x18, rfl, h⟩
    refine WL_val gd0 ((o_eql rfl rfl) _) rfl ?_
    refine WL_val gd0 ((o_assign (v := .bool (decide (x18 = 0))) rfl) _) rfl ?_
    refine WL_nil ?_
    refine nrm ?_
    refine WC_ret ?_
    refine rtT ?_
    refine rtE ?_
    exact gv1 rfl rfl h
  · rw [if_neg (neT hb11)] at h
    refine WC_skip ?_
    refine nrm ?_
    refine WC_seq ?_
    refine WC_draws [5, 11] (.look 0 (.look 1 (.look 2 (.look 3 (.look 4 (.look 6 (.look 7 (.look 8 (.look 9 (.look 10 (.act 5 (.act 11 (.look 12 (.look 13 .nil)))))))))))))) Try.mixed (by kernel_rfl) ?_
    refine WQ_val rfl gd0 (o_move (v := .pointer m1) (by exact e0)) rfl ?_
    refine WQ_val rfl gd0 (o_fieldAddr 1 Try.underlying32 rfl Try.sizeOf3 rfl rfl rfl) rfl ?_
    obtain ⟨x19, hc20, h⟩ := h
    refine WQ_look (fun w => w.cell? (p7.add 1) = some (.int .i64 x19)) rfl gd0 (fun w hc => (o_load Try.isAgg3 rfl hc)) hc20 rfl ?_
    refine WQ_val rfl gd0 (o_fieldAddr 2 Try.underlying32 rfl Try.sizeOf3 rfl rfl rfl) rfl ?_
    obtain ⟨x21, hc22, h⟩ := h
    refine WQ_look (fun w => w.cell? (p7.add 2) = some (.int .i64 x21)) rfl gd0 (fun w hc => (o_load Try.isAgg3 rfl hc)) hc22 rfl ?_
    refine WQ_val rfl gd0 (o_move (v := .pointer x2) (by exact e1)) rfl ?_
    refine WQ_val rfl gd0 (o_fieldAddr 1 Try.underlying32 rfl Try.sizeOf3 rfl rfl rfl) rfl ?_
    obtain ⟨x23, hc24, h⟩ := h
    refine WQ_look (fun w => w.cell? (p7.add 1) = some (.int .i64 x23)) rfl gd0 (fun w hc => (o_load Try.isAgg3 rfl hc)) hc24 rfl ?_
    refine WQ_val rfl gd0 (o_fieldAddr 2 Try.underlying32 rfl Try.sizeOf3 rfl rfl rfl) rfl ?_
    obtain ⟨x25, hc26, h⟩ := h
    refine WQ_look (fun w => w.cell? (p7.add 2) = some (.int .i64 x25)) rfl gd0 (fun w hc => (o_load Try.isAgg3 rfl hc)) hc26 rfl ?_
    refine WQ_call rfl gd0 (o_call Try.call16 (argCons rfl (argCons rfl (argCons rfl argNil))) _) rfl (h.mono ?_)
    rintro _ w27 ⟨x28, rfl, hh29, hh30, h⟩
    refine ⟨⟨⟨⟨⟨trivial, depT (by kernel_rfl)⟩, depT (by kernel_rfl)⟩, fun _ => hh29⟩, fun _ => hh30⟩, ?_⟩
    refine WQ_call rfl gd0 (o_call Try.call21 (argCons rfl (argCons rfl (argCons rfl argNil))) _) rfl (h.mono ?_)
    rintro _ w31 ⟨x32, rfl, h⟩
    refine ⟨⟨⟨⟨⟨trivial, depT (by kernel_rfl)⟩, depT (by kernel_rfl)⟩, depT (by kernel_rfl)⟩, depT (by kernel_rfl)⟩, ?_⟩
    refine WQ_val rfl gd0 (o_eql rfl rfl) rfl ?_
    refine WQ_val rfl gd0 (o_assign (v := .bool (decide (x28 = x32))) rfl) rfl ?_
    refine WQ_nil ?_
    refine nrm ?_
    refine WC_ret ?_
    refine rtE ?_
    exact gv1 rfl rfl h

def F12_b1 (l_n12 : Nat) (l_a11 : Option Addr) (p8 : Addr) (i28 : Int) (w29 : World) (k : Value → World → Prop) (nx29 : Int → World → Prop) : Prop :=
  if i28 < (l_n12 : Int) then
  ∃ (p34 : Addr), l_a11 = some p34 ∧ (0 : Int) ≤ i28 ∧ i28 < (l_n12 : Int) ∧ ∃ (x36 : Int), w29.drew.cell? (p34.add (i28.toNat * 3)) = some (.int .i64 x36) ∧ ∃ (x_a38 : Option Addr) (x_n39 x_c40 : Nat), w29.drew.cell? (p8.add 2) = some (.slice x_a38 x_n39 x_c40) ∧ ∃ (p44 : Addr), x_a38 = some p44 ∧ (0 : Int) ≤ i28 ∧ i28 < (x_n39 : Int) ∧ ∃ (x46 : Int), w29.drew.cell? (p44.add (i28.toNat * 3)) = some (.int .i64 x46) ∧ if x36 ≠ x46 then
    k (.bool false) w29.drew
  else
    (0 : Int) ≤ i28 ∧ i28 < (l_n12 : Int) ∧ ∃ (x51 : Int), w29.drew.cell? ((p34.add (i28.toNat * 3)).add 1) = some (.int .i64 x51) ∧ ∃ (x_a53 : Option Addr) (x_n54 x_c55 : Nat), w29.drew.cell? (p8.add 2) = some (.slice x_a53 x_n54 x_c55) ∧ ∃ (p59 : Addr), x_a53 = some p59 ∧ (0 : Int) ≤ i28 ∧ i28 < (x_n54 : Int) ∧ ∃ (x61 : Int), w29.drew.cell? ((p59.add (i28.toNat * 3)).add 1) = some (.int .i64 x61) ∧ if x51 ≠ x61 then
      k (.bool false) w29.drew
    else
      (0 : Int) ≤ i28 ∧ i28 < (l_n12 : Int) ∧ ∃ (x66 : Int), w29.drew.cell? ((p34.add (i28.toNat * 3)).add 2) = some (.int .i64 x66) ∧ ∃ (x_a68 : Option Addr) (x_n69 x_c70 : Nat), w29.drew.cell? (p8.add 2) = some (.slice x_a68 x_n69 x_c70) ∧ ∃ (p74 : Addr), x_a68 = some p74 ∧ (0 : Int) ≤ i28 ∧ i28 < (x_n69 : Int) ∧ ∃ (x76 : Int), w29.drew.cell? ((p74.add (i28.toNat * 3)).add 2) = some (.int .i64 x76) ∧ if x66 ≠ x76 then
        k (.bool false) w29.drew
      else
        nx29 (IntKind.i64.wrap (i28 + 1)) w29.drew
else
  k (.bool true) w29
/-- spacecraft spacecraftlaw45.agrees -/
def F12 (m1 : Option Addr) (x2 : Int) (x3 : Int) (x_a4 : Option Addr) (x_n5 : Nat) (x_c6 : Nat) (w7 : World) (k : Value → World → Prop) : Prop :=
  New w7 28 [.int .i64 x2, .int .i64 x3, .slice x_a4 x_n5 x_c6] (fun p8 w9 => Does Try.prog 18 #[.pointer m1] w9 (fun v w10 => ∃ (l_a11 : Option Addr) (l_n12 l_c13 : Nat), v = .slice l_a11 l_n12 l_c13 ∧ ∃ (x14 : Int), w10.drew.cell? p8 = some (.int .i64 x14) ∧ Does Try.prog 17 #[.pointer m1] w10.drew (fun v w16 => ∃ (x17 : Int), v = .int .i64 x17 ∧ w16.cell? p8 = some (.int .i64 x14) ∧ if x17 ≠ x14 then
  k (.bool false) w16
else
  ∃ (x_a20 : Option Addr) (x_n21 x_c22 : Nat), w16.cell? (p8.add 2) = some (.slice x_a20 x_n21 x_c22) ∧ if (l_n12 : Int) ≠ (x_n21 : Int) then
    k (.bool false) w16
  else
    LoopP (fun (s : Int) w' nx' => F12_b1 l_n12 l_a11 p8 s w' k (fun x0 w => nx' x0 w)) 0 w16)))
set_option maxRecDepth 100000 in
set_option maxHeartbeats 2000000 in
theorem w12 (m1 : Option Addr) (x2 : Int) (x3 : Int) (x_a4 : Option Addr) (x_n5 : Nat) (x_c6 : Nat) (w7 : World) (k : Value → World → Prop) (h : F12 m1 x2 x3 x_a4 x_n5 x_c6 w7 k) : Does Try.prog 12 #[.pointer m1, .agg #[.int .i64 x2, .int .i64 x3, .slice x_a4 x_n5 x_c6]] w7 k := by
  refine enter 68 Try.func12 rfl rfl rfl ?_
  intro ρ hρ
  have e0 := hρ 0 _ rfl
  have e1 := hρ 1 _ rfl
  unfold F12 at h
  refine WC_seq ?_
  refine WC_region ?_
  have h := New.out h
  refine WL_val gd0 (o_box (v := .agg #[.int .i64 x2, .int .i64 x3, .slice x_a4 x_n5 x_c6]) (cs := [.int .i64 x2, .int .i64 x3, .slice x_a4 x_n5 x_c6]) (by exact e1) rfl) rfl ?_
  generalize hp8 : fresh w7 = p8 at h ⊢
  generalize hw9 : push w7 28 [.int .i64 x2, .int .i64 x3, .slice x_a4 x_n5 x_c6] = w9 at h ⊢
  try dsimp only at h
  refine WL_val gd0 ((o_assign (v := .bool false) rfl) _) rfl ?_
  refine WL_nil ?_
  refine nrm ?_
  refine WC_seq ?_
  refine WC_region ?_
  refine WL_val gd0 ((o_move (v := .pointer m1) (by exact e0)) _) rfl ?_
  refine WL_call gd0 (o_call Try.call18 (argCons rfl argNil) _) rfl (h.mono ?_)
  rintro _ w10 ⟨l_a11, l_n12, l_c13, rfl, h⟩
  refine WL_val gd0 ((o_assign (v := .slice l_a11 l_n12 l_c13) rfl) _) rfl ?_
  refine WL_nil ?_
  refine nrm ?_
  refine WC_seq ?_
  refine WC_seq ?_
  refine WC_draws [1] (.look 0 (.look 2 (.look 3 (.act 1 (.look 4 (.look 5 (.look 6 (.look 7 (.look 8 (.look 9 (.look 10 (.look 11 (.look 12 .nil))))))))))))) Try.mixed (by kernel_rfl) ?_
  refine WQ_val rfl gd0 (o_move (v := .pointer m1) (by exact e0)) rfl ?_
  refine WQ_val rfl gd0 (o_fieldAddr0 Try.underlying28 rfl Try.sizeOf3 rfl rfl rfl) rfl ?_
  obtain ⟨x14, hc15, h⟩ := h
  refine WQ_look (fun w => w.cell? p8 = some (.int .i64 x14)) rfl gd0 (fun w hc => (o_load Try.isAgg3 rfl hc)) hc15 rfl ?_
  refine WQ_call rfl gd0 (o_call Try.call17 (argCons rfl argNil) _) rfl (h.mono ?_)
  rintro _ w16 ⟨x17, rfl, hh18, h⟩
  refine ⟨⟨trivial, fun _ => hh18⟩, ?_⟩
  refine WQ_val rfl gd0 (o_neq rfl rfl) rfl ?_
  refine WQ_val rfl gd0 (o_move (v := .bool (decide (x17 ≠ x14))) rfl) rfl ?_
  refine bsplit (decide (x17 ≠ x14)) (fun hb19 => ?_) (fun hb19 => ?_)
  · rw [if_pos (of_decide_eq_true hb19)] at h
    refine WQ_skip rfl (gdN (b := (decide (x17 ≠ x14))) 14 rfl rfl hb19) rfl ?_
    refine WQ_skip rfl (gdN (b := (decide (x17 ≠ x14))) 14 rfl rfl hb19) rfl ?_
    refine WQ_skip rfl (gdN (b := (decide (x17 ≠ x14))) 14 rfl rfl hb19) rfl ?_
    refine WQ_skip rfl (gdN (b := (decide (x17 ≠ x14))) 14 rfl rfl hb19) rfl ?_
    refine WQ_skip rfl (gdN (b := (decide (x17 ≠ x14))) 14 rfl rfl hb19) rfl ?_
    refine WQ_skip rfl (gdN (b := (decide (x17 ≠ x14))) 14 rfl rfl hb19) rfl ?_
    refine WQ_val rfl gd0 (o_pickT (v := .bool true) rfl hb19 rfl) rfl ?_
    refine WQ_nil ?_
    refine nrm ?_
    refine WC_cond (t := true) rfl (fun _ => ?_) (fun hx => by rw [(rfl : true = true)] at hx; cases hx)
    refine WC_seq ?_
    refine WC_region ?_
    refine WL_val gd0 ((o_assign (v := .bool false) rfl) _) rfl ?_
    refine WL_nil ?_
    refine nrm ?_
    refine WC_ret ?_
    refine rtT ?_
    refine rtE ?_
    exact gv1 rfl rfl h
  · rw [if_neg (of_decide_eq_false hb19)] at h
    refine WQ_val rfl (gdY (b := (decide (x17 ≠ x14))) 14 rfl rfl hb19) (o_move (v := .slice l_a11 l_n12 l_c13) rfl) rfl ?_
    refine WQ_val rfl (gdY (b := (decide (x17 ≠ x14))) 14 rfl rfl hb19) (o_len Try.underlying43 rfl) rfl ?_
    refine WQ_val rfl (gdY (b := (decide (x17 ≠ x14))) 14 rfl rfl hb19) (o_fieldAddr 2 Try.underlying28 rfl Try.sizeOf26 rfl rfl rfl) rfl ?_
    obtain ⟨x_a20, x_n21, x_c22, hc23, h⟩ := h
    refine WQ_look (fun w => w.cell? (p8.add 2) = some (.slice x_a20 x_n21 x_c22)) rfl (gdY (b := (decide (x17 ≠ x14))) 14 rfl rfl hb19) (fun w hc => (o_load Try.isAgg26 rfl hc)) hc23 rfl ?_
    refine WQ_val rfl (gdY (b := (decide (x17 ≠ x14))) 14 rfl rfl hb19) (o_len Try.underlying26 rfl) rfl ?_
    refine WQ_val rfl (gdY (b := (decide (x17 ≠ x14))) 14 rfl rfl hb19) (o_neq rfl rfl) rfl ?_
    refine WQ_val rfl gd0 (o_pickF (v := .bool (decide ((l_n12 : Int) ≠ (x_n21 : Int)))) rfl hb19 rfl) rfl ?_
    refine WQ_nil ?_
    refine nrm ?_
    refine WC_cond (t := (decide ((l_n12 : Int) ≠ (x_n21 : Int)))) rfl (fun hb24 => ?_) (fun hb24 => ?_)
    · rw [if_pos (of_decide_eq_true hb24)] at h
      refine WC_seq ?_
      refine WC_region ?_
      refine WL_val gd0 ((o_assign (v := .bool false) rfl) _) rfl ?_
      refine WL_nil ?_
      refine nrm ?_
      refine WC_ret ?_
      refine rtT ?_
      refine rtE ?_
      exact gv1 rfl rfl h
    · rw [if_neg (of_decide_eq_false hb24)] at h
      refine WC_skip ?_
      refine nrm ?_
      refine WC_seq ?_
      refine WC_seq ?_
      refine WC_region ?_
      refine WL_val gd0 ((o_assign (v := .int .i64 0) rfl) _) rfl ?_
      refine WL_nil ?_
      refine nrm ?_
      refine WC_block ?_
      obtain ⟨J29, ⟨n29, h0⟩, hr29⟩ := h
      refine WC_loop (fun n ρ w' => ∃ (i28 : Int), ρ 6 = .int .i64 i28 ∧ ρ 3 = .pointer (some p8) ∧ ρ 5 = .slice l_a11 l_n12 l_c13 ∧ J29 n i28 w') ⟨n29, _, rfl, rfl, rfl, h0⟩ ?_
      rintro n29 ρ w29 ⟨i28, e6_27, e3_25, e5_26, h⟩
      have h : F12_b1 l_n12 l_a11 p8 i28 w29 k (fun x0 w => ∃ m, m < n29 ∧ J29 m x0 w) := hr29 n29 i28 w29 h
      unfold F12_b1 at h
      refine WC_seq ?_
      refine WC_seq ?_
      refine WC_region ?_
      refine WL_val gd0 ((o_move (v := .int .i64 i28) (by exact e6_27)) _) rfl ?_
      refine WL_val gd0 ((o_move (v := .slice l_a11 l_n12 l_c13) (by exact e5_26)) _) rfl ?_
      refine WL_val gd0 ((o_len Try.underlying43 rfl) _) rfl ?_
      refine WL_val gd0 ((o_lss rfl rfl) _) rfl ?_
      refine WL_nil ?_
      refine nrm ?_
      refine WC_cond (t := (decide (i28 < (l_n12 : Int)))) rfl (fun hb31 => ?_) (fun hb31 => ?_)
      · rw [if_pos (of_decide_eq_true hb31)] at h
        refine WC_skip ?_
        refine nrm ?_
        refine WC_seq ?_
        refine WC_block ?_
        refine WC_seq ?_
        refine WC_draws [] (.look 0 (.look 1 (.look 2 (.look 3 (.look 4 (.look 5 (.look 6 (.look 7 (.look 8 (.look 9 (.look 10 (.look 11 (.look 12 (.look 13 (.look 14 (.look 15 (.look 16 (.look 17 (.look 18 (.look 19 (.look 20 (.look 21 (.look 22 (.look 23 (.look 24 (.look 25 (.look 26 (.look 27 (.look 28 (.look 29 (.look 30 (.look 31 (.look 32 (.look 33 (.look 34 (.look 35 (.look 36 (.look 37 (.look 38 (.look 39 .nil)))))))))))))))))))))))))))))))))))))))) Try.mixed (by kernel_rfl) ?_
        refine WQ_val rfl gd0 (o_move (v := .slice l_a11 l_n12 l_c13) (by exact e5_26)) rfl ?_
        refine WQ_val rfl gd0 (o_move (v := .int .i64 i28) (by exact e6_27)) rfl ?_
        obtain ⟨p34, q35, h⟩ := h
        obtain ⟨l32, u33, h⟩ := h
        refine WQ_val rfl gd0 (o_indexAddr Try.underlying43 Try.sizeOf46 (by exact (congrArg (fun z => Value.slice z l_n12 l_c13) q35)) rfl l32 u33) rfl ?_
        refine WQ_val rfl gd0 (o_fieldAddr0 Try.underlying46 rfl Try.sizeOf3 rfl rfl rfl) rfl ?_
        obtain ⟨x36, hc37, h⟩ := h
        refine WQ_look (fun w => w.cell? (p34.add (i28.toNat * 3)) = some (.int .i64 x36)) rfl gd0 (fun w hc => (o_load Try.isAgg3 rfl hc)) hc37 rfl ?_
        refine WQ_val rfl gd0 (o_fieldAddr 2 Try.underlying28 rfl Try.sizeOf26 rfl rfl (by exact e3_25)) rfl ?_
        obtain ⟨x_a38, x_n39, x_c40, hc41, h⟩ := h
        refine WQ_look (fun w => w.cell? (p8.add 2) = some (.slice x_a38 x_n39 x_c40)) rfl gd0 (fun w hc => (o_load Try.isAgg26 rfl hc)) hc41 rfl ?_
        refine WQ_val rfl gd0 (o_move (v := .int .i64 i28) (by exact e6_27)) rfl ?_
        obtain ⟨p44, q45, h⟩ := h
        obtain ⟨l42, u43, h⟩ := h
        refine WQ_val rfl gd0 (o_indexAddr Try.underlying26 Try.sizeOf50 (by exact (congrArg (fun z => Value.slice z x_n39 x_c40) q45)) rfl l42 u43) rfl ?_
        refine WQ_val rfl gd0 (o_fieldAddr0 Try.underlying50 rfl Try.sizeOf3 rfl rfl rfl) rfl ?_
        obtain ⟨x46, hc47, h⟩ := h
        refine WQ_look (fun w => w.cell? (p44.add (i28.toNat * 3)) = some (.int .i64 x46)) rfl gd0 (fun w hc => (o_load Try.isAgg3 rfl hc)) hc47 rfl ?_
        refine WQ_val rfl gd0 (o_neq rfl rfl) rfl ?_
        refine WQ_val rfl gd0 (o_move (v := .bool (decide (x36 ≠ x46))) rfl) rfl ?_
        refine bsplit (decide (x36 ≠ x46)) (fun hb48 => ?_) (fun hb48 => ?_)
        · rw [if_pos (of_decide_eq_true hb48)] at h
          refine WQ_skip rfl (gdN (b := (decide (x36 ≠ x46))) 40 rfl rfl hb48) rfl ?_
          refine WQ_skip rfl (gdN (b := (decide (x36 ≠ x46))) 40 rfl rfl hb48) rfl ?_
          refine WQ_skip rfl (gdN (b := (decide (x36 ≠ x46))) 40 rfl rfl hb48) rfl ?_
          refine WQ_skip rfl (gdN (b := (decide (x36 ≠ x46))) 40 rfl rfl hb48) rfl ?_
          refine WQ_skip rfl (gdN (b := (decide (x36 ≠ x46))) 40 rfl rfl hb48) rfl ?_
          refine WQ_skip rfl (gdN (b := (decide (x36 ≠ x46))) 40 rfl rfl hb48) rfl ?_
          refine WQ_skip rfl (gdN (b := (decide (x36 ≠ x46))) 40 rfl rfl hb48) rfl ?_
          refine WQ_skip rfl (gdN (b := (decide (x36 ≠ x46))) 40 rfl rfl hb48) rfl ?_
          refine WQ_skip rfl (gdN (b := (decide (x36 ≠ x46))) 40 rfl rfl hb48) rfl ?_
          refine WQ_skip rfl (gdN (b := (decide (x36 ≠ x46))) 40 rfl rfl hb48) rfl ?_
          refine WQ_skip rfl (gdN (b := (decide (x36 ≠ x46))) 40 rfl rfl hb48) rfl ?_
          refine WQ_skip rfl (gdN (b := (decide (x36 ≠ x46))) 40 rfl rfl hb48) rfl ?_
          refine WQ_val rfl gd0 (o_pickT (v := .bool true) rfl hb48 rfl) rfl ?_
          refine WQ_val rfl gd0 (o_move (v := .bool true) rfl) rfl ?_
          refine WQ_skip rfl (gdN (b := true) 54 rfl rfl rfl) rfl ?_
          refine WQ_skip rfl (gdN (b := true) 54 rfl rfl rfl) rfl ?_
          refine WQ_skip rfl (gdN (b := true) 54 rfl rfl rfl) rfl ?_
          refine WQ_skip rfl (gdN (b := true) 54 rfl rfl rfl) rfl ?_
          refine WQ_skip rfl (gdN (b := true) 54 rfl rfl rfl) rfl ?_
          refine WQ_skip rfl (gdN (b := true) 54 rfl rfl rfl) rfl ?_
          refine WQ_skip rfl (gdN (b := true) 54 rfl rfl rfl) rfl ?_
          refine WQ_skip rfl (gdN (b := true) 54 rfl rfl rfl) rfl ?_
          refine WQ_skip rfl (gdN (b := true) 54 rfl rfl rfl) rfl ?_
          refine WQ_skip rfl (gdN (b := true) 54 rfl rfl rfl) rfl ?_
          refine WQ_skip rfl (gdN (b := true) 54 rfl rfl rfl) rfl ?_
          refine WQ_skip rfl (gdN (b := true) 54 rfl rfl rfl) rfl ?_
          refine WQ_val rfl gd0 (o_pickT (v := .bool true) rfl rfl rfl) rfl ?_
          refine WQ_nil ?_
          refine nrm ?_
          refine WC_cond (t := true) rfl (fun _ => ?_) (fun hx => by rw [(rfl : true = true)] at hx; cases hx)
          refine WC_seq ?_
          refine WC_region ?_
          refine WL_val gd0 ((o_assign (v := .bool false) rfl) _) rfl ?_
          refine WL_nil ?_
          refine nrm ?_
          refine WC_ret ?_
          refine rtB ?_
          refine rtT ?_
          refine rtT ?_
          refine rtB ?_
          refine rtT ?_
          refine rtE ?_
          exact gv1 rfl rfl h
        · rw [if_neg (of_decide_eq_false hb48)] at h
          refine WQ_val rfl (gdY (b := (decide (x36 ≠ x46))) 40 rfl rfl hb48) (o_move (v := .slice l_a11 l_n12 l_c13) (by exact e5_26)) rfl ?_
          refine WQ_val rfl (gdY (b := (decide (x36 ≠ x46))) 40 rfl rfl hb48) (o_move (v := .int .i64 i28) (by exact e6_27)) rfl ?_
          obtain ⟨l49, u50, h⟩ := h
          refine WQ_val rfl (gdY (b := (decide (x36 ≠ x46))) 40 rfl rfl hb48) (o_indexAddr Try.underlying43 Try.sizeOf46 (by exact (congrArg (fun z => Value.slice z l_n12 l_c13) q35)) rfl l49 u50) rfl ?_
          refine WQ_val rfl (gdY (b := (decide (x36 ≠ x46))) 40 rfl rfl hb48) (o_fieldAddr 1 Try.underlying46 rfl Try.sizeOf3 rfl rfl rfl) rfl ?_
          obtain ⟨x51, hc52, h⟩ := h
          refine WQ_look (fun w => w.cell? ((p34.add (i28.toNat * 3)).add 1) = some (.int .i64 x51)) rfl (gdY (b := (decide (x36 ≠ x46))) 40 rfl rfl hb48) (fun w hc => (o_load Try.isAgg3 rfl hc)) hc52 rfl ?_
          refine WQ_val rfl (gdY (b := (decide (x36 ≠ x46))) 40 rfl rfl hb48) (o_fieldAddr 2 Try.underlying28 rfl Try.sizeOf26 rfl rfl (by exact e3_25)) rfl ?_
          obtain ⟨x_a53, x_n54, x_c55, hc56, h⟩ := h
          refine WQ_look (fun w => w.cell? (p8.add 2) = some (.slice x_a53 x_n54 x_c55)) rfl (gdY (b := (decide (x36 ≠ x46))) 40 rfl rfl hb48) (fun w hc => (o_load Try.isAgg26 rfl hc)) hc56 rfl ?_
          refine WQ_val rfl (gdY (b := (decide (x36 ≠ x46))) 40 rfl rfl hb48) (o_move (v := .int .i64 i28) (by exact e6_27)) rfl ?_
          obtain ⟨p59, q60, h⟩ := h
          obtain ⟨l57, u58, h⟩ := h
          refine WQ_val rfl (gdY (b := (decide (x36 ≠ x46))) 40 rfl rfl hb48) (o_indexAddr Try.underlying26 Try.sizeOf50 (by exact (congrArg (fun z => Value.slice z x_n54 x_c55) q60)) rfl l57 u58) rfl ?_
          refine WQ_val rfl (gdY (b := (decide (x36 ≠ x46))) 40 rfl rfl hb48) (o_fieldAddr 1 Try.underlying50 rfl Try.sizeOf3 rfl rfl rfl) rfl ?_
          obtain ⟨x61, hc62, h⟩ := h
          refine WQ_look (fun w => w.cell? ((p59.add (i28.toNat * 3)).add 1) = some (.int .i64 x61)) rfl (gdY (b := (decide (x36 ≠ x46))) 40 rfl rfl hb48) (fun w hc => (o_load Try.isAgg3 rfl hc)) hc62 rfl ?_
          refine WQ_val rfl (gdY (b := (decide (x36 ≠ x46))) 40 rfl rfl hb48) (o_neq rfl rfl) rfl ?_
          refine WQ_val rfl gd0 (o_pickF (v := .bool (decide (x51 ≠ x61))) rfl hb48 rfl) rfl ?_
          refine WQ_val rfl gd0 (o_move (v := .bool (decide (x51 ≠ x61))) rfl) rfl ?_
          refine bsplit (decide (x51 ≠ x61)) (fun hb63 => ?_) (fun hb63 => ?_)
          · rw [if_pos (of_decide_eq_true hb63)] at h
            refine WQ_skip rfl (gdN (b := (decide (x51 ≠ x61))) 54 rfl rfl hb63) rfl ?_
            refine WQ_skip rfl (gdN (b := (decide (x51 ≠ x61))) 54 rfl rfl hb63) rfl ?_
            refine WQ_skip rfl (gdN (b := (decide (x51 ≠ x61))) 54 rfl rfl hb63) rfl ?_
            refine WQ_skip rfl (gdN (b := (decide (x51 ≠ x61))) 54 rfl rfl hb63) rfl ?_
            refine WQ_skip rfl (gdN (b := (decide (x51 ≠ x61))) 54 rfl rfl hb63) rfl ?_
            refine WQ_skip rfl (gdN (b := (decide (x51 ≠ x61))) 54 rfl rfl hb63) rfl ?_
            refine WQ_skip rfl (gdN (b := (decide (x51 ≠ x61))) 54 rfl rfl hb63) rfl ?_
            refine WQ_skip rfl (gdN (b := (decide (x51 ≠ x61))) 54 rfl rfl hb63) rfl ?_
            refine WQ_skip rfl (gdN (b := (decide (x51 ≠ x61))) 54 rfl rfl hb63) rfl ?_
            refine WQ_skip rfl (gdN (b := (decide (x51 ≠ x61))) 54 rfl rfl hb63) rfl ?_
            refine WQ_skip rfl (gdN (b := (decide (x51 ≠ x61))) 54 rfl rfl hb63) rfl ?_
            refine WQ_skip rfl (gdN (b := (decide (x51 ≠ x61))) 54 rfl rfl hb63) rfl ?_
            refine WQ_val rfl gd0 (o_pickT (v := .bool true) rfl hb63 rfl) rfl ?_
            refine WQ_nil ?_
            refine nrm ?_
            refine WC_cond (t := true) rfl (fun _ => ?_) (fun hx => by rw [(rfl : true = true)] at hx; cases hx)
            refine WC_seq ?_
            refine WC_region ?_
            refine WL_val gd0 ((o_assign (v := .bool false) rfl) _) rfl ?_
            refine WL_nil ?_
            refine nrm ?_
            refine WC_ret ?_
            refine rtB ?_
            refine rtT ?_
            refine rtT ?_
            refine rtB ?_
            refine rtT ?_
            refine rtE ?_
            exact gv1 rfl rfl h
          · rw [if_neg (of_decide_eq_false hb63)] at h
            refine WQ_val rfl (gdY (b := (decide (x51 ≠ x61))) 54 rfl rfl hb63) (o_move (v := .slice l_a11 l_n12 l_c13) (by exact e5_26)) rfl ?_
            refine WQ_val rfl (gdY (b := (decide (x51 ≠ x61))) 54 rfl rfl hb63) (o_move (v := .int .i64 i28) (by exact e6_27)) rfl ?_
            obtain ⟨l64, u65, h⟩ := h
            refine WQ_val rfl (gdY (b := (decide (x51 ≠ x61))) 54 rfl rfl hb63) (o_indexAddr Try.underlying43 Try.sizeOf46 (by exact (congrArg (fun z => Value.slice z l_n12 l_c13) q35)) rfl l64 u65) rfl ?_
            refine WQ_val rfl (gdY (b := (decide (x51 ≠ x61))) 54 rfl rfl hb63) (o_fieldAddr 2 Try.underlying46 rfl Try.sizeOf3 rfl rfl rfl) rfl ?_
            obtain ⟨x66, hc67, h⟩ := h
            refine WQ_look (fun w => w.cell? ((p34.add (i28.toNat * 3)).add 2) = some (.int .i64 x66)) rfl (gdY (b := (decide (x51 ≠ x61))) 54 rfl rfl hb63) (fun w hc => (o_load Try.isAgg3 rfl hc)) hc67 rfl ?_
            refine WQ_val rfl (gdY (b := (decide (x51 ≠ x61))) 54 rfl rfl hb63) (o_fieldAddr 2 Try.underlying28 rfl Try.sizeOf26 rfl rfl (by exact e3_25)) rfl ?_
            obtain ⟨x_a68, x_n69, x_c70, hc71, h⟩ := h
            refine WQ_look (fun w => w.cell? (p8.add 2) = some (.slice x_a68 x_n69 x_c70)) rfl (gdY (b := (decide (x51 ≠ x61))) 54 rfl rfl hb63) (fun w hc => (o_load Try.isAgg26 rfl hc)) hc71 rfl ?_
            refine WQ_val rfl (gdY (b := (decide (x51 ≠ x61))) 54 rfl rfl hb63) (o_move (v := .int .i64 i28) (by exact e6_27)) rfl ?_
            obtain ⟨p74, q75, h⟩ := h
            obtain ⟨l72, u73, h⟩ := h
            refine WQ_val rfl (gdY (b := (decide (x51 ≠ x61))) 54 rfl rfl hb63) (o_indexAddr Try.underlying26 Try.sizeOf50 (by exact (congrArg (fun z => Value.slice z x_n69 x_c70) q75)) rfl l72 u73) rfl ?_
            refine WQ_val rfl (gdY (b := (decide (x51 ≠ x61))) 54 rfl rfl hb63) (o_fieldAddr 2 Try.underlying50 rfl Try.sizeOf3 rfl rfl rfl) rfl ?_
            obtain ⟨x76, hc77, h⟩ := h
            refine WQ_look (fun w => w.cell? ((p74.add (i28.toNat * 3)).add 2) = some (.int .i64 x76)) rfl (gdY (b := (decide (x51 ≠ x61))) 54 rfl rfl hb63) (fun w hc => (o_load Try.isAgg3 rfl hc)) hc77 rfl ?_
            refine WQ_val rfl (gdY (b := (decide (x51 ≠ x61))) 54 rfl rfl hb63) (o_neq rfl rfl) rfl ?_
            refine WQ_val rfl gd0 (o_pickF (v := .bool (decide (x66 ≠ x76))) rfl hb63 rfl) rfl ?_
            refine WQ_nil ?_
            refine nrm ?_
            refine WC_cond (t := (decide (x66 ≠ x76))) rfl (fun hb78 => ?_) (fun hb78 => ?_)
            · rw [if_pos (of_decide_eq_true hb78)] at h
              refine WC_seq ?_
              refine WC_region ?_
              refine WL_val gd0 ((o_assign (v := .bool false) rfl) _) rfl ?_
              refine WL_nil ?_
              refine nrm ?_
              refine WC_ret ?_
              refine rtB ?_
              refine rtT ?_
              refine rtT ?_
              refine rtB ?_
              refine rtT ?_
              refine rtE ?_
              exact gv1 rfl rfl h
            · rw [if_neg (of_decide_eq_false hb78)] at h
              refine WC_skip ?_
              refine nrmB ?_
              refine nrm ?_
              refine WC_region ?_
              refine WL_val gd0 ((o_move (v := .int .i64 i28) (by exact e6_27)) _) rfl ?_
              refine WL_val gd0 ((o_add rfl rfl) _) rfl ?_
              refine WL_val gd0 ((o_assign (v := .int .i64 (IntKind.i64.wrap (i28 + 1))) rfl) _) rfl ?_
              refine WL_nil ?_
              refine nrm ?_
              obtain ⟨m30, hm30, h⟩ := h
              exact ⟨m30, hm30, _, rfl, e3_25, e5_26, h⟩
      · rw [if_neg (of_decide_eq_false hb31)] at h
        refine WC_exit ?_
        refine exT ?_
        refine exT ?_
        refine exB ?_
        refine nrm ?_
        refine WC_seq ?_
        refine WC_region ?_
        refine WL_val gd0 ((o_assign (v := .bool true) rfl) _) rfl ?_
        refine WL_nil ?_
        refine nrm ?_
        refine WC_ret ?_
        refine rtE ?_
        exact gv1 rfl rfl h


end Go.Proofs.Ytfnlhonngacagaa
