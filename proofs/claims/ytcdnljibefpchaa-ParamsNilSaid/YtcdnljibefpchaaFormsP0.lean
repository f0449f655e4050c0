/-
  The forms of the functions, and their walks: written by a program of this claim (gen.py) off the elaborated translation.
-/
import Derived.Test.YtcdnljibefpchaaProg
import Derived.Test.YtcdnljibefpchaaBase
import Derived.KernelRfl
namespace Go.Proofs.Ytcdnljibefpchaa
open Go Go.Sh Go.Proofs
set_option linter.unusedVariables false
theorem Try.mixed : Try.prog.follows .mixedOrders = true := by kernel_rfl
def F3_j1 (l_a1 : Option Addr) (l_n2 : Nat) (l_c3 : Nat) (ids_a4 : Option Addr) (ids_n5 : Nat) (ids_c6 : Nat) (b_a7 : Option Addr) (b_n8 : Nat) (b_c9 : Nat) (t15 : Bool) (w16 : World) (k : Value → World → Prop) : Prop :=
  if t15 = true then
  Does Try.prog 9 #[] w16 (fun v w18 => ∃ (t19 : Bool), v = .bool t19 ∧ k (.bool t19) w18)
else
  Does Try.prog 10 #[.slice l_a1 l_n2 l_c3, .slice ids_a4 ids_n5 ids_c6, .slice b_a7 b_n8 b_c9] w16 (fun v w20 => ∃ (r_a21 : Option Addr) (r_n22 r_c23 : Nat) (r24 : Int), v = .tuple #[.slice r_a21 r_n22 r_c23, .int .i64 r24] ∧ Does Try.prog 11 #[.slice l_a1 l_n2 l_c3, .slice ids_a4 ids_n5 ids_c6, .slice b_a7 b_n8 b_c9] w20 (fun v w25 => ∃ (r_a26 : Option Addr) (r_n27 r_c28 : Nat) (r29 : Int), v = .tuple #[.slice r_a26 r_n27 r_c28, .int .i64 r29] ∧ Does Try.prog 12 #[.slice r_a21 r_n22 r_c23, .slice r_a26 r_n27 r_c28] w25 (fun v w30 => ∃ (x31 : Bool), v = .bool x31 ∧ if x31 = true then
    if r24 = r29 then
      Does Try.prog 9 #[] w30 (fun v w34 => ∃ (x35 : Bool), v = .bool x35 ∧ k (.bool x35) w34)
    else
      k (.bool false) w30
  else
    k (.bool false) w30)))
/-- spacecraft spacecraftlaw33.ParamsUnpacks -/
def F3 (l_a1 : Option Addr) (l_n2 : Nat) (l_c3 : Nat) (ids_a4 : Option Addr) (ids_n5 : Nat) (ids_c6 : Nat) (b_a7 : Option Addr) (b_n8 : Nat) (b_c9 : Nat) (w10 : World) (k : Value → World → Prop) : Prop :=
  if 300 < (l_n2 : Int) then
  F3_j1 l_a1 l_n2 l_c3 ids_a4 ids_n5 ids_c6 b_a7 b_n8 b_c9 true w10 k
else
  if 300 < (ids_n5 : Int) then
    F3_j1 l_a1 l_n2 l_c3 ids_a4 ids_n5 ids_c6 b_a7 b_n8 b_c9 true w10 k
  else
    F3_j1 l_a1 l_n2 l_c3 ids_a4 ids_n5 ids_c6 b_a7 b_n8 b_c9 (decide (300 < (b_n8 : Int))) w10 k
set_option maxRecDepth 100000 in
set_option maxHeartbeats 2000000 in
theorem w3 (l_a1 : Option Addr) (l_n2 : Nat) (l_c3 : Nat) (ids_a4 : Option Addr) (ids_n5 : Nat) (ids_c6 : Nat) (b_a7 : Option Addr) (b_n8 : Nat) (b_c9 : Nat) (w10 : World) (k : Value → World → Prop) (h : F3 l_a1 l_n2 l_c3 ids_a4 ids_n5 ids_c6 b_a7 b_n8 b_c9 w10 k) : Does Try.prog 3 #[.slice l_a1 l_n2 l_c3, .slice ids_a4 ids_n5 ids_c6, .slice b_a7 b_n8 b_c9] w10 k := by
  refine enter 50 Try.func3 rfl rfl rfl ?_
  intro ρ hρ
  have e0 := hρ 0 _ rfl
  have e1 := hρ 1 _ rfl
  have e2 := hρ 2 _ rfl
  unfold F3 at h
  refine WC_seq ?_
  refine WC_region ?_
  refine WL_val gd0 ((o_assign (v := .bool false) rfl) _) rfl ?_
  refine WL_nil ?_
  refine nrm ?_
  refine WC_seq ?_
  refine WC_cut (fun ρ w' => ∃ (t15 : Bool), ρ 23 = .bool t15 ∧ ρ 0 = .slice l_a1 l_n2 l_c3 ∧ ρ 1 = .slice ids_a4 ids_n5 ids_c6 ∧ ρ 2 = .slice b_a7 b_n8 b_c9 ∧ F3_j1 l_a1 l_n2 l_c3 ids_a4 ids_n5 ids_c6 b_a7 b_n8 b_c9 t15 w' k) ?_ ?_
  · refine WC_region ?_
    refine WL_val gd0 ((o_move (v := .slice l_a1 l_n2 l_c3) (by exact e0)) _) rfl ?_
    refine WL_val gd0 ((o_len Try.underlying22 rfl) _) rfl ?_
    refine WL_val gd0 ((o_gtr rfl rfl) _) rfl ?_
    refine WL_val gd0 ((o_move (v := .bool (decide (300 < (l_n2 : Int)))) rfl) _) rfl ?_
    refine bsplit (decide (300 < (l_n2 : Int))) (fun hb36 => ?_) (fun hb36 => ?_)
    · rw [if_pos (of_decide_eq_true hb36)] at h
      refine WL_skip (gdN (b := (decide (300 < (l_n2 : Int)))) 14 rfl rfl hb36) rfl ?_
      refine WL_skip (gdN (b := (decide (300 < (l_n2 : Int)))) 14 rfl rfl hb36) rfl ?_
      refine WL_skip (gdN (b := (decide (300 < (l_n2 : Int)))) 14 rfl rfl hb36) rfl ?_
      refine WL_val gd0 ((o_pickT (v := .bool true) rfl hb36 rfl) _) rfl ?_
      refine WL_val gd0 ((o_move (v := .bool true) rfl) _) rfl ?_
      refine WL_skip (gdN (b := true) 19 rfl rfl rfl) rfl ?_
      refine WL_skip (gdN (b := true) 19 rfl rfl rfl) rfl ?_
      refine WL_skip (gdN (b := true) 19 rfl rfl rfl) rfl ?_
      refine WL_val gd0 ((o_pickT (v := .bool true) rfl rfl rfl) _) rfl ?_
      refine WL_nil ?_
      refine nrm ?_
      exact ⟨_, rfl, e0, e1, e2, h⟩
    · rw [if_neg (of_decide_eq_false hb36)] at h
      refine WL_val (gdY (b := (decide (300 < (l_n2 : Int)))) 14 rfl rfl hb36) ((o_move (v := .slice ids_a4 ids_n5 ids_c6) (by exact e1)) _) rfl ?_
      refine WL_val (gdY (b := (decide (300 < (l_n2 : Int)))) 14 rfl rfl hb36) ((o_len Try.underlying23 rfl) _) rfl ?_
      refine WL_val (gdY (b := (decide (300 < (l_n2 : Int)))) 14 rfl rfl hb36) ((o_gtr rfl rfl) _) rfl ?_
      refine WL_val gd0 ((o_pickF (v := .bool (decide (300 < (ids_n5 : Int)))) rfl hb36 rfl) _) rfl ?_
      refine WL_val gd0 ((o_move (v := .bool (decide (300 < (ids_n5 : Int)))) rfl) _) rfl ?_
      refine bsplit (decide (300 < (ids_n5 : Int))) (fun hb37 => ?_) (fun hb37 => ?_)
      · rw [if_pos (of_decide_eq_true hb37)] at h
        refine WL_skip (gdN (b := (decide (300 < (ids_n5 : Int)))) 19 rfl rfl hb37) rfl ?_
        refine WL_skip (gdN (b := (decide (300 < (ids_n5 : Int)))) 19 rfl rfl hb37) rfl ?_
        refine WL_skip (gdN (b := (decide (300 < (ids_n5 : Int)))) 19 rfl rfl hb37) rfl ?_
        refine WL_val gd0 ((o_pickT (v := .bool true) rfl hb37 rfl) _) rfl ?_
        refine WL_nil ?_
        refine nrm ?_
        exact ⟨_, rfl, e0, e1, e2, h⟩
      · rw [if_neg (of_decide_eq_false hb37)] at h
        refine WL_val (gdY (b := (decide (300 < (ids_n5 : Int)))) 19 rfl rfl hb37) ((o_move (v := .slice b_a7 b_n8 b_c9) (by exact e2)) _) rfl ?_
        refine WL_val (gdY (b := (decide (300 < (ids_n5 : Int)))) 19 rfl rfl hb37) ((o_len Try.underlying24 rfl) _) rfl ?_
        refine WL_val (gdY (b := (decide (300 < (ids_n5 : Int)))) 19 rfl rfl hb37) ((o_gtr rfl rfl) _) rfl ?_
        refine WL_val gd0 ((o_pickF (v := .bool (decide (300 < (b_n8 : Int)))) rfl hb37 rfl) _) rfl ?_
        refine WL_nil ?_
        refine nrm ?_
        exact ⟨_, rfl, e0, e1, e2, h⟩
  · rintro ρ w16 ⟨t15, e23_14, e0_11, e1_12, e2_13, h⟩
    unfold F3_j1 at h
    refine WC_cond (t := t15) (by exact e23_14) (fun hb17 => ?_) (fun hb17 => ?_)
    · rw [if_pos hb17] at h
      refine WC_seq ?_
      refine WC_region ?_
      refine WL_call gd0 (o_call Try.call9 argNil _) rfl (h.mono ?_)
      rintro _ w18 ⟨t19, rfl, h⟩
      refine WL_val gd0 ((o_assign (v := .bool t19) rfl) _) rfl ?_
      refine WL_nil ?_
      refine nrm ?_
      refine WC_ret ?_
      refine rtT ?_
      refine rtE ?_
      exact gv1 rfl rfl h
    · rw [if_neg (neT hb17)] at h
      refine WC_skip ?_
      refine nrm ?_
      refine WC_seq ?_
      refine WC_region ?_
      refine WL_val gd0 ((o_move (v := .slice l_a1 l_n2 l_c3) (by exact e0_11)) _) rfl ?_
      refine WL_val gd0 ((o_move (v := .slice ids_a4 ids_n5 ids_c6) (by exact e1_12)) _) rfl ?_
      refine WL_val gd0 ((o_move (v := .slice b_a7 b_n8 b_c9) (by exact e2_13)) _) rfl ?_
      refine WL_call gd0 (o_call Try.call10 (argCons rfl (argCons rfl (argCons rfl argNil))) _) rfl (h.mono ?_)
      rintro _ w20 ⟨r_a21, r_n22, r_c23, r24, rfl, h⟩
      refine WL_val gd0 ((o_move (v := .tuple #[.slice r_a21 r_n22 r_c23, .int .i64 r24]) rfl) _) rfl ?_
      refine WL_val gd0 ((o_extract (vs := [.slice r_a21 r_n22 r_c23, .int .i64 r24]) (r := .slice r_a21 r_n22 r_c23) rfl rfl) _) rfl ?_
      refine WL_val gd0 ((o_extract (vs := [.slice r_a21 r_n22 r_c23, .int .i64 r24]) (r := .int .i64 r24) rfl rfl) _) rfl ?_
      refine WL_val gd0 ((o_assign (v := .slice r_a21 r_n22 r_c23) rfl) _) rfl ?_
      refine WL_val gd0 ((o_assign (v := .int .i64 r24) rfl) _) rfl ?_
      refine WL_nil ?_
      refine nrm ?_
      refine WC_seq ?_
      refine WC_region ?_
      refine WL_val gd0 ((o_move (v := .slice l_a1 l_n2 l_c3) (by exact e0_11)) _) rfl ?_
      refine WL_val gd0 ((o_move (v := .slice ids_a4 ids_n5 ids_c6) (by exact e1_12)) _) rfl ?_
      refine WL_val gd0 ((o_move (v := .slice b_a7 b_n8 b_c9) (by exact e2_13)) _) rfl ?_
      refine WL_call gd0 (o_call Try.call11 (argCons rfl (argCons rfl (argCons rfl argNil))) _) rfl (h.mono ?_)
      rintro _ w25 ⟨r_a26, r_n27, r_c28, r29, rfl, h⟩
      refine WL_val gd0 ((o_move (v := .tuple #[.slice r_a26 r_n27 r_c28, .int .i64 r29]) rfl) _) rfl ?_
      refine WL_val gd0 ((o_extract (vs := [.slice r_a26 r_n27 r_c28, .int .i64 r29]) (r := .slice r_a26 r_n27 r_c28) rfl rfl) _) rfl ?_
      refine WL_val gd0 ((o_extract (vs := [.slice r_a26 r_n27 r_c28, .int .i64 r29]) (r := .int .i64 r29) rfl rfl) _) rfl ?_
      refine WL_val gd0 ((o_assign (v := .slice r_a26 r_n27 r_c28) rfl) _) rfl ?_
      refine WL_val gd0 ((o_assign (v := .int .i64 r29) rfl) _) rfl ?_
      refine WL_nil ?_
      refine nrm ?_
      refine WC_seq ?_
      refine WC_region ?_
      refine WL_val gd0 ((o_move (v := .slice r_a21 r_n22 r_c23) rfl) _) rfl ?_
      refine WL_val gd0 ((o_move (v := .slice r_a26 r_n27 r_c28) rfl) _) rfl ?_
      refine WL_call gd0 (o_call Try.call12 (argCons rfl (argCons rfl argNil)) _) rfl (h.mono ?_)
      rintro _ w30 ⟨x31, rfl, h⟩
      refine WL_val gd0 ((o_move (v := .bool x31) rfl) _) rfl ?_
      refine bsplit x31 (fun hb32 => ?_) (fun hb32 => ?_)
      · rw [if_pos hb32] at h
        refine WL_val (gdY (b := x31) 42 rfl rfl hb32) ((o_move (v := .int .i64 r24) rfl) _) rfl ?_
        refine WL_val (gdY (b := x31) 42 rfl rfl hb32) ((o_move (v := .int .i64 r29) rfl) _) rfl ?_
        refine WL_val (gdY (b := x31) 42 rfl rfl hb32) ((o_eql rfl rfl) _) rfl ?_
        refine WL_val gd0 ((o_pickT (v := .bool (decide (r24 = r29))) rfl hb32 rfl) _) rfl ?_
        refine WL_val gd0 ((o_move (v := .bool (decide (r24 = r29))) rfl) _) rfl ?_
        refine bsplit (decide (r24 = r29)) (fun hb33 => ?_) (fun hb33 => ?_)
        · rw [if_pos (of_decide_eq_true hb33)] at h
          refine WL_call (gdY (b := (decide (r24 = r29))) 47 rfl rfl hb33) (o_call Try.call9 argNil _) rfl (h.mono ?_)
          rintro _ w34 ⟨x35, rfl, h⟩
          refine WL_val gd0 ((o_pickT (v := .bool x35) rfl hb33 rfl) _) rfl ?_
          refine WL_val gd0 ((o_assign (v := .bool x35) rfl) _) rfl ?_
          refine WL_nil ?_
          refine nrm ?_
          refine WC_ret ?_
          refine rtE ?_
          exact gv1 rfl rfl h
        · rw [if_neg (of_decide_eq_false hb33)] at h
          refine WL_skip (gdN (b := (decide (r24 = r29))) 47 rfl rfl hb33) rfl ?_
          refine WL_val gd0 ((o_pickF (v := .bool false) rfl hb33 rfl) _) rfl ?_
          refine WL_val gd0 ((o_assign (v := .bool false) rfl) _) rfl ?_
          refine WL_nil ?_
          refine nrm ?_
          refine WC_ret ?_
          refine rtE ?_
          exact gv1 rfl rfl h
      · rw [if_neg (neT hb32)] at h
        refine WL_skip (gdN (b := x31) 42 rfl rfl hb32) rfl ?_
        refine WL_skip (gdN (b := x31) 42 rfl rfl hb32) rfl ?_
        refine WL_skip (gdN (b := x31) 42 rfl rfl hb32) rfl ?_
        refine WL_val gd0 ((o_pickF (v := .bool false) rfl hb32 rfl) _) rfl ?_
        refine WL_val gd0 ((o_move (v := .bool false) rfl) _) rfl ?_
        refine WL_skip (gdN (b := false) 47 rfl rfl rfl) rfl ?_
        refine WL_val gd0 ((o_pickF (v := .bool false) rfl rfl rfl) _) rfl ?_
        refine WL_val gd0 ((o_assign (v := .bool false) rfl) _) rfl ?_
        refine WL_nil ?_
        refine nrm ?_
        refine WC_ret ?_
        refine rtE ?_
        exact gv1 rfl rfl h

def F4_b2 (r_n34 : Nat) (ids_a4 : Option Addr) (ids_n5 : Nat) (r17 : Option Addr) (r_a33 : Option Addr) (i43 : Int) (w44 : World) (k : Value → World → Prop) (nx44 : Int → World → Prop) : Prop :=
  if i43 < (r_n34 : Int) then
  ∃ (p49 : Addr), ids_a4 = some p49 ∧ (0 : Int) ≤ i43 ∧ i43 < (ids_n5 : Int) ∧ ∃ (x51 : Int), w44.cell? (p49.add i43.toNat) = some (.int .i64 x51) ∧ Does Try.prog 15 #[.pointer r17, .int .i64 x51] w44 (fun v w53 => ∃ (r54 r55 : Int), v = .tuple #[.int .i64 r54, .int .i64 r55] ∧ if r55 ≠ 0 then
    k (.bool false) w53.drew
  else
    ∃ (p59 : Addr), r_a33 = some p59 ∧ (0 : Int) ≤ i43 ∧ i43 < (r_n34 : Int) ∧ ∃ (x61 : Int), w53.drew.cell? (p59.add (i43.toNat * 2)) = some (.int .i64 x61) ∧ (0 : Int) ≤ i43 ∧ i43 < (ids_n5 : Int) ∧ ∃ (x65 : Int), w53.drew.cell? (p49.add i43.toNat) = some (.int .i64 x65) ∧ if x61 ≠ x65 then
      k (.bool false) w53.drew
    else
      (0 : Int) ≤ i43 ∧ i43 < (r_n34 : Int) ∧ ∃ (x70 : Int), w53.drew.cell? ((p59.add (i43.toNat * 2)).add 1) = some (.int .i64 x70) ∧ if x70 ≠ r54 then
        k (.bool false) w53.drew
      else
        nx44 (IntKind.i64.wrap (i43 + 1)) w53.drew)
else
  Does Try.prog 9 #[] w44 (fun v w73 => ∃ (t74 : Bool), v = .bool t74 ∧ k (.bool t74) w73)
def F4_j1 (l_a1 : Option Addr) (l_n2 : Nat) (l_c3 : Nat) (ids_a4 : Option Addr) (ids_n5 : Nat) (ids_c6 : Nat) (t11 : Bool) (w12 : World) (k : Value → World → Prop) : Prop :=
  if t11 = true then
  Does Try.prog 9 #[] w12 (fun v w14 => ∃ (t15 : Bool), v = .bool t15 ∧ k (.bool t15) w14)
else
  Does Try.prog 13 #[.slice l_a1 l_n2 l_c3] w12 (fun v w16 => ∃ (r17 : Option Addr) (r18 : Int), v = .tuple #[.pointer r17, .int .i64 r18] ∧ if r18 ≠ 0 then
    if (r17).isNone = true then
      Does Try.prog 9 #[] w16 (fun v w21 => ∃ (x22 : Bool), v = .bool x22 ∧ k (.bool x22) w21)
    else
      k (.bool false) w16
  else
    Does Try.prog 14 #[.pointer r17, .slice ids_a4 ids_n5 ids_c6] w16 (fun v w23 => ∃ (r_a24 : Option Addr) (r_n25 r_c26 : Nat) (r27 : Int), v = .tuple #[.slice r_a24 r_n25 r_c26, .int .i64 r27] ∧ if r27 ≠ 0 then
      if (r_n25 : Int) = 0 then
        Does Try.prog 9 #[] w23 (fun v w30 => ∃ (x31 : Bool), v = .bool x31 ∧ k (.bool x31) w30)
      else
        k (.bool false) w23
    else
      Does Try.prog 10 #[.slice l_a1 l_n2 l_c3, .slice ids_a4 ids_n5 ids_c6, .slice r_a24 r_n25 r_c26] w23 (fun v w32 => ∃ (r_a33 : Option Addr) (r_n34 r_c35 : Nat) (r36 : Int), v = .tuple #[.slice r_a33 r_n34 r_c35, .int .i64 r36] ∧ if r36 ≠ 0 then
        k (.bool false) w32
      else
        if (r_n34 : Int) ≠ (ids_n5 : Int) then
          k (.bool false) w32
        else
          LoopP (fun (s : Int) w' nx' => F4_b2 r_n34 ids_a4 ids_n5 r17 r_a33 s w' k (fun x0 w => nx' x0 w)) 0 w32)))
/-- spacecraft spacecraftlaw33.ParamsBack -/
def F4 (l_a1 : Option Addr) (l_n2 : Nat) (l_c3 : Nat) (ids_a4 : Option Addr) (ids_n5 : Nat) (ids_c6 : Nat) (w7 : World) (k : Value → World → Prop) : Prop :=
  if 300 < (l_n2 : Int) then
  F4_j1 l_a1 l_n2 l_c3 ids_a4 ids_n5 ids_c6 true w7 k
else
  F4_j1 l_a1 l_n2 l_c3 ids_a4 ids_n5 ids_c6 (decide (300 < (ids_n5 : Int))) w7 k
set_option maxRecDepth 100000 in
set_option maxHeartbeats 2000000 in
theorem w4 (l_a1 : Option Addr) (l_n2 : Nat) (l_c3 : Nat) (ids_a4 : Option Addr) (ids_n5 : Nat) (ids_c6 : Nat) (w7 : World) (k : Value → World → Prop) (h : F4 l_a1 l_n2 l_c3 ids_a4 ids_n5 ids_c6 w7 k) : Does Try.prog 4 #[.slice l_a1 l_n2 l_c3, .slice ids_a4 ids_n5 ids_c6] w7 k := by
  refine enter 104 Try.func4 rfl rfl rfl ?_
  intro ρ hρ
  have e0 := hρ 0 _ rfl
  have e1 := hρ 1 _ rfl
  unfold F4 at h
  refine WC_seq ?_
  refine WC_region ?_
  refine WL_val gd0 ((o_assign (v := .bool false) rfl) _) rfl ?_
  refine WL_nil ?_
  refine nrm ?_
  refine WC_seq ?_
  refine WC_cut (fun ρ w' => ∃ (t11 : Bool), ρ 21 = .bool t11 ∧ ρ 0 = .slice l_a1 l_n2 l_c3 ∧ ρ 1 = .slice ids_a4 ids_n5 ids_c6 ∧ F4_j1 l_a1 l_n2 l_c3 ids_a4 ids_n5 ids_c6 t11 w' k) ?_ ?_
  · refine WC_region ?_
    refine WL_val gd0 ((o_move (v := .slice l_a1 l_n2 l_c3) (by exact e0)) _) rfl ?_
    refine WL_val gd0 ((o_len Try.underlying22 rfl) _) rfl ?_
    refine WL_val gd0 ((o_gtr rfl rfl) _) rfl ?_
    refine WL_val gd0 ((o_move (v := .bool (decide (300 < (l_n2 : Int)))) rfl) _) rfl ?_
    refine bsplit (decide (300 < (l_n2 : Int))) (fun hb75 => ?_) (fun hb75 => ?_)
    · rw [if_pos (of_decide_eq_true hb75)] at h
      refine WL_skip (gdN (b := (decide (300 < (l_n2 : Int)))) 17 rfl rfl hb75) rfl ?_
      refine WL_skip (gdN (b := (decide (300 < (l_n2 : Int)))) 17 rfl rfl hb75) rfl ?_
      refine WL_skip (gdN (b := (decide (300 < (l_n2 : Int)))) 17 rfl rfl hb75) rfl ?_
      refine WL_val gd0 ((o_pickT (v := .bool true) rfl hb75 rfl) _) rfl ?_
      refine WL_nil ?_
      refine nrm ?_
      exact ⟨_, rfl, e0, e1, h⟩
    · rw [if_neg (of_decide_eq_false hb75)] at h
      refine WL_val (gdY (b := (decide (300 < (l_n2 : Int)))) 17 rfl rfl hb75) ((o_move (v := .slice ids_a4 ids_n5 ids_c6) (by exact e1)) _) rfl ?_
      refine WL_val (gdY (b := (decide (300 < (l_n2 : Int)))) 17 rfl rfl hb75) ((o_len Try.underlying23 rfl) _) rfl ?_
      refine WL_val (gdY (b := (decide (300 < (l_n2 : Int)))) 17 rfl rfl hb75) ((o_gtr rfl rfl) _) rfl ?_
      refine WL_val gd0 ((o_pickF (v := .bool (decide (300 < (ids_n5 : Int)))) rfl hb75 rfl) _) rfl ?_
      refine WL_nil ?_
      refine nrm ?_
      exact ⟨_, rfl, e0, e1, h⟩
  · rintro ρ w12 ⟨t11, e21_10, e0_8, e1_9, h⟩
    unfold F4_j1 at h
    refine WC_cond (t := t11) (by exact e21_10) (fun hb13 => ?_) (fun hb13 => ?_)
    · rw [if_pos hb13] at h
      refine WC_seq ?_
      refine WC_region ?_
      refine WL_call gd0 (o_call Try.call9 argNil _) rfl (h.mono ?_)
      rintro _ w14 ⟨t15, rfl, h⟩
      refine WL_val gd0 ((o_assign (v := .bool t15) rfl) _) rfl ?_
      refine WL_nil ?_
      refine nrm ?_
      refine WC_ret ?_
      refine rtT ?_
      refine rtE ?_
      exact gv1 rfl rfl h
    · rw [if_neg (neT hb13)] at h
      refine WC_skip ?_
      refine nrm ?_
      refine WC_seq ?_
      refine WC_region ?_
      refine WL_val gd0 ((o_move (v := .slice l_a1 l_n2 l_c3) (by exact e0_8)) _) rfl ?_
      refine WL_call gd0 (o_call Try.call13 (argCons rfl argNil) _) rfl (h.mono ?_)
      rintro _ w16 ⟨r17, r18, rfl, h⟩
      refine WL_val gd0 ((o_move (v := .tuple #[.pointer r17, .int .i64 r18]) rfl) _) rfl ?_
      refine WL_val gd0 ((o_extract (vs := [.pointer r17, .int .i64 r18]) (r := .pointer r17) rfl rfl) _) rfl ?_
      refine WL_val gd0 ((o_extract (vs := [.pointer r17, .int .i64 r18]) (r := .int .i64 r18) rfl rfl) _) rfl ?_
      refine WL_val gd0 ((o_assign (v := .pointer r17) rfl) _) rfl ?_
      refine WL_val gd0 ((o_assign (v := .int .i64 r18) rfl) _) rfl ?_
      refine WL_nil ?_
      refine nrm ?_
      refine WC_seq ?_
      refine WC_seq ?_
      refine WC_region ?_
      refine WL_val gd0 ((o_move (v := .int .i64 r18) rfl) _) rfl ?_
      refine WL_val gd0 ((o_neq rfl rfl) _) rfl ?_
      refine WL_nil ?_
      refine nrm ?_
      refine WC_cond (t := (decide (r18 ≠ 0))) rfl (fun hb19 => ?_) (fun hb19 => ?_)
      · rw [if_pos (of_decide_eq_true hb19)] at h
        refine WC_seq ?_
        refine WC_region ?_
        refine WL_val gd0 ((o_move (v := .pointer r17) rfl) _) rfl ?_
        refine WL_val gd0 ((o_eqlPtrNil Try.underlying32 rfl rfl) _) rfl ?_
        refine WL_val gd0 ((o_move (v := .bool ((r17).isNone)) rfl) _) rfl ?_
        refine bsplit ((r17).isNone) (fun hb20 => ?_) (fun hb20 => ?_)
        · rw [if_pos hb20] at h
          refine WL_call (gdY (b := ((r17).isNone)) 32 rfl rfl hb20) (o_call Try.call9 argNil _) rfl (h.mono ?_)
          rintro _ w21 ⟨x22, rfl, h⟩
          refine WL_val gd0 ((o_pickT (v := .bool x22) rfl hb20 rfl) _) rfl ?_
          refine WL_val gd0 ((o_assign (v := .bool x22) rfl) _) rfl ?_
          refine WL_nil ?_
          refine nrm ?_
          refine WC_ret ?_
          refine rtT ?_
          refine rtE ?_
          exact gv1 rfl rfl h
        · rw [if_neg (neT hb20)] at h
          refine WL_skip (gdN (b := ((r17).isNone)) 32 rfl rfl hb20) rfl ?_
          refine WL_val gd0 ((o_pickF (v := .bool false) rfl hb20 rfl) _) rfl ?_
          refine WL_val gd0 ((o_assign (v := .bool false) rfl) _) rfl ?_
          refine WL_nil ?_
          refine nrm ?_
          refine WC_ret ?_
          refine rtT ?_
          refine rtE ?_
          exact gv1 rfl rfl h
      · rw [if_neg (of_decide_eq_false hb19)] at h
        refine WC_skip ?_
        refine nrm ?_
        refine WC_seq ?_
        refine WC_region ?_
        refine WL_val gd0 ((o_move (v := .pointer r17) rfl) _) rfl ?_
        refine WL_val gd0 ((o_move (v := .slice ids_a4 ids_n5 ids_c6) (by exact e1_9)) _) rfl ?_
        refine WL_call gd0 (o_call Try.call14 (argCons rfl (argCons rfl argNil)) _) rfl (h.mono ?_)
        rintro _ w23 ⟨r_a24, r_n25, r_c26, r27, rfl, h⟩
        refine WL_val gd0 ((o_move (v := .tuple #[.slice r_a24 r_n25 r_c26, .int .i64 r27]) rfl) _) rfl ?_
        refine WL_val gd0 ((o_extract (vs := [.slice r_a24 r_n25 r_c26, .int .i64 r27]) (r := .slice r_a24 r_n25 r_c26) rfl rfl) _) rfl ?_
        refine WL_val gd0 ((o_extract (vs := [.slice r_a24 r_n25 r_c26, .int .i64 r27]) (r := .int .i64 r27) rfl rfl) _) rfl ?_
        refine WL_val gd0 ((o_assign (v := .slice r_a24 r_n25 r_c26) rfl) _) rfl ?_
        refine WL_val gd0 ((o_assign (v := .int .i64 r27) rfl) _) rfl ?_
        refine WL_nil ?_
        refine nrm ?_
        refine WC_seq ?_
        refine WC_seq ?_
        refine WC_region ?_
        refine WL_val gd0 ((o_move (v := .int .i64 r27) rfl) _) rfl ?_
        refine WL_val gd0 ((o_neq rfl rfl) _) rfl ?_
        refine WL_nil ?_
        refine nrm ?_
        refine WC_cond (t := (decide (r27 ≠ 0))) rfl (fun hb28 => ?_) (fun hb28 => ?_)
        · rw [if_pos (of_decide_eq_true hb28)] at h
          refine WC_seq ?_
          refine WC_region ?_
          refine WL_val gd0 ((o_move (v := .slice r_a24 r_n25 r_c26) rfl) _) rfl ?_
          refine WL_val gd0 ((o_len Try.underlying24 rfl) _) rfl ?_
          refine WL_val gd0 ((o_eql rfl rfl) _) rfl ?_
          refine WL_val gd0 ((o_move (v := .bool (decide ((r_n25 : Int) = 0))) rfl) _) rfl ?_
          refine bsplit (decide ((r_n25 : Int) = 0)) (fun hb29 => ?_) (fun hb29 => ?_)
          · rw [if_pos (of_decide_eq_true hb29)] at h
            refine WL_call (gdY (b := (decide ((r_n25 : Int) = 0))) 46 rfl rfl hb29) (o_call Try.call9 argNil _) rfl (h.mono ?_)
            rintro _ w30 ⟨x31, rfl, h⟩
            refine WL_val gd0 ((o_pickT (v := .bool x31) rfl hb29 rfl) _) rfl ?_
            refine WL_val gd0 ((o_assign (v := .bool x31) rfl) _) rfl ?_
            refine WL_nil ?_
            refine nrm ?_
            refine WC_ret ?_
            refine rtT ?_
            refine rtE ?_
            exact gv1 rfl rfl h
          · rw [if_neg (of_decide_eq_false hb29)] at h
            refine WL_skip (gdN (b := (decide ((r_n25 : Int) = 0))) 46 rfl rfl hb29) rfl ?_
            refine WL_val gd0 ((o_pickF (v := .bool false) rfl hb29 rfl) _) rfl ?_
            refine WL_val gd0 ((o_assign (v := .bool false) rfl) _) rfl ?_
            refine WL_nil ?_
            refine nrm ?_
            refine WC_ret ?_
            refine rtT ?_
            refine rtE ?_
            exact gv1 rfl rfl h
        · rw [if_neg (of_decide_eq_false hb28)] at h
          refine WC_skip ?_
          refine nrm ?_
          refine WC_seq ?_
          refine WC_region ?_
          refine WL_val gd0 ((o_move (v := .slice l_a1 l_n2 l_c3) (by exact e0_8)) _) rfl ?_
          refine WL_val gd0 ((o_move (v := .slice ids_a4 ids_n5 ids_c6) (by exact e1_9)) _) rfl ?_
          refine WL_val gd0 ((o_move (v := .slice r_a24 r_n25 r_c26) rfl) _) rfl ?_
          refine WL_call gd0 (o_call Try.call10 (argCons rfl (argCons rfl (argCons rfl argNil))) _) rfl (h.mono ?_)
          rintro _ w32 ⟨r_a33, r_n34, r_c35, r36, rfl, h⟩
          refine WL_val gd0 ((o_move (v := .tuple #[.slice r_a33 r_n34 r_c35, .int .i64 r36]) rfl) _) rfl ?_
          refine WL_val gd0 ((o_extract (vs := [.slice r_a33 r_n34 r_c35, .int .i64 r36]) (r := .slice r_a33 r_n34 r_c35) rfl rfl) _) rfl ?_
          refine WL_val gd0 ((o_extract (vs := [.slice r_a33 r_n34 r_c35, .int .i64 r36]) (r := .int .i64 r36) rfl rfl) _) rfl ?_
          refine WL_val gd0 ((o_assign (v := .slice r_a33 r_n34 r_c35) rfl) _) rfl ?_
          refine WL_val gd0 ((o_assign (v := .int .i64 r36) rfl) _) rfl ?_
          refine WL_nil ?_
          refine nrm ?_
          refine WC_seq ?_
          refine WC_seq ?_
          refine WC_region ?_
          refine WL_val gd0 ((o_move (v := .int .i64 r36) rfl) _) rfl ?_
          refine WL_val gd0 ((o_neq rfl rfl) _) rfl ?_
          refine WL_val gd0 ((o_move (v := .bool (decide (r36 ≠ 0))) rfl) _) rfl ?_
          refine bsplit (decide (r36 ≠ 0)) (fun hb37 => ?_) (fun hb37 => ?_)
          · rw [if_pos (of_decide_eq_true hb37)] at h
            refine WL_skip (gdN (b := (decide (r36 ≠ 0))) 58 rfl rfl hb37) rfl ?_
            refine WL_skip (gdN (b := (decide (r36 ≠ 0))) 58 rfl rfl hb37) rfl ?_
            refine WL_skip (gdN (b := (decide (r36 ≠ 0))) 58 rfl rfl hb37) rfl ?_
            refine WL_skip (gdN (b := (decide (r36 ≠ 0))) 58 rfl rfl hb37) rfl ?_
            refine WL_skip (gdN (b := (decide (r36 ≠ 0))) 58 rfl rfl hb37) rfl ?_
            refine WL_val gd0 ((o_pickT (v := .bool true) rfl hb37 rfl) _) rfl ?_
            refine WL_nil ?_
            refine nrm ?_
            refine WC_cond (t := true) rfl (fun _ => ?_) (fun hx => by rw [(rfl : true = true)] at hx; cases hx)
            refine WC_seq ?_
            refine WC_region ?_
            refine WL_val gd0 ((o_assign (v := .bool false) rfl) _) rfl ?_
            refine WL_nil ?_
            refine nrm ?_
            refine WC_ret ?_
            refine rtT ?_
            refine rtE ?_
            exact gv1 rfl rfl h
          · rw [if_neg (of_decide_eq_false hb37)] at h
            refine WL_val (gdY (b := (decide (r36 ≠ 0))) 58 rfl rfl hb37) ((o_move (v := .slice r_a33 r_n34 r_c35) rfl) _) rfl ?_
            refine WL_val (gdY (b := (decide (r36 ≠ 0))) 58 rfl rfl hb37) ((o_len Try.underlying26 rfl) _) rfl ?_
            refine WL_val (gdY (b := (decide (r36 ≠ 0))) 58 rfl rfl hb37) ((o_move (v := .slice ids_a4 ids_n5 ids_c6) (by exact e1_9)) _) rfl ?_
            refine WL_val (gdY (b := (decide (r36 ≠ 0))) 58 rfl rfl hb37) ((o_len Try.underlying23 rfl) _) rfl ?_
            refine WL_val (gdY (b := (decide (r36 ≠ 0))) 58 rfl rfl hb37) ((o_neq rfl rfl) _) rfl ?_
            refine WL_val gd0 ((o_pickF (v := .bool (decide ((r_n34 : Int) ≠ (ids_n5 : Int)))) rfl hb37 rfl) _) rfl ?_
            refine WL_nil ?_
            refine nrm ?_
            refine WC_cond (t := (decide ((r_n34 : Int) ≠ (ids_n5 : Int)))) rfl (fun hb38 => ?_) (fun hb38 => ?_)
            · rw [if_pos (of_decide_eq_true hb38)] at h
              refine WC_seq ?_
              refine WC_region ?_
              refine WL_val gd0 ((o_assign (v := .bool false) rfl) _) rfl ?_
              refine WL_nil ?_
              refine nrm ?_
              refine WC_ret ?_
              refine rtT ?_
              refine rtE ?_
              exact gv1 rfl rfl h
            · rw [if_neg (of_decide_eq_false hb38)] at h
              refine WC_skip ?_
              refine nrm ?_
              refine WC_seq ?_
              refine WC_seq ?_
              refine WC_region ?_
              refine WL_val gd0 ((o_assign (v := .int .i64 0) rfl) _) rfl ?_
              refine WL_nil ?_
              refine nrm ?_
              refine WC_block ?_
              obtain ⟨J44, ⟨n44, h0⟩, hr44⟩ := h
              refine WC_loop (fun n ρ w' => ∃ (i43 : Int), ρ 11 = .int .i64 i43 ∧ ρ 1 = .slice ids_a4 ids_n5 ids_c6 ∧ ρ 5 = .pointer r17 ∧ ρ 9 = .slice r_a33 r_n34 r_c35 ∧ J44 n i43 w') ⟨n44, _, rfl, e1_9, rfl, rfl, h0⟩ ?_
              rintro n44 ρ w44 ⟨i43, e11_42, e1_39, e5_40, e9_41, h⟩
              have h : F4_b2 r_n34 ids_a4 ids_n5 r17 r_a33 i43 w44 k (fun x0 w => ∃ m, m < n44 ∧ J44 m x0 w) := hr44 n44 i43 w44 h
              unfold F4_b2 at h
              refine WC_seq ?_
              refine WC_seq ?_
              refine WC_region ?_
              refine WL_val gd0 ((o_move (v := .int .i64 i43) (by exact e11_42)) _) rfl ?_
              refine WL_val gd0 ((o_move (v := .slice r_a33 r_n34 r_c35) (by exact e9_41)) _) rfl ?_
              refine WL_val gd0 ((o_len Try.underlying26 rfl) _) rfl ?_
              refine WL_val gd0 ((o_lss rfl rfl) _) rfl ?_
              refine WL_nil ?_
              refine nrm ?_
              refine WC_cond (t := (decide (i43 < (r_n34 : Int)))) rfl (fun hb46 => ?_) (fun hb46 => ?_)
              · rw [if_pos (of_decide_eq_true hb46)] at h
                refine WC_skip ?_
                refine nrm ?_
                refine WC_seq ?_
                refine WC_block ?_
                refine WC_seq ?_
                refine WC_region ?_
                refine WL_val gd0 ((o_move (v := .pointer r17) (by exact e5_40)) _) rfl ?_
                refine WL_val gd0 ((o_move (v := .slice ids_a4 ids_n5 ids_c6) (by exact e1_39)) _) rfl ?_
                refine WL_val gd0 ((o_move (v := .int .i64 i43) (by exact e11_42)) _) rfl ?_
                obtain ⟨p49, q50, h⟩ := h
                obtain ⟨l47, u48, h⟩ := h
                refine WL_val gd0 ((o_indexAddr1 Try.underlying23 Try.sizeOf3 (by exact (congrArg (fun z => Value.slice z ids_n5 ids_c6) q50)) rfl l47 u48) _) rfl ?_
                obtain ⟨x51, hc52, h⟩ := h
                refine WL_val gd0 (o_load Try.isAgg3 rfl hc52) rfl ?_
                refine WL_call gd0 (o_call Try.call15 (argCons rfl (argCons rfl argNil)) _) rfl (h.mono ?_)
                rintro _ w53 ⟨r54, r55, rfl, h⟩
                refine WL_val gd0 ((o_move (v := .tuple #[.int .i64 r54, .int .i64 r55]) rfl) _) rfl ?_
                refine WL_val gd0 ((o_extract (vs := [.int .i64 r54, .int .i64 r55]) (r := .int .i64 r54) rfl rfl) _) rfl ?_
                refine WL_val gd0 ((o_extract (vs := [.int .i64 r54, .int .i64 r55]) (r := .int .i64 r55) rfl rfl) _) rfl ?_
                refine WL_val gd0 ((o_assign (v := .int .i64 r54) rfl) _) rfl ?_
                refine WL_val gd0 ((o_assign (v := .int .i64 r55) rfl) _) rfl ?_
                refine WL_nil ?_
                refine nrm ?_
                refine WC_seq ?_
                refine WC_draws [] (.look 0 (.look 1 (.look 2 (.look 3 (.look 4 (.look 5 (.look 6 (.look 7 (.look 8 (.look 9 (.look 10 (.look 11 (.look 12 (.look 13 (.look 14 (.look 15 (.look 16 (.look 17 (.look 18 (.look 19 (.look 20 (.look 21 (.look 22 .nil))))))))))))))))))))))) Try.mixed (by kernel_rfl) ?_
                refine WQ_val rfl gd0 (o_move (v := .int .i64 r55) rfl) rfl ?_
                refine WQ_val rfl gd0 (o_neq rfl rfl) rfl ?_
                refine WQ_val rfl gd0 (o_move (v := .bool (decide (r55 ≠ 0))) rfl) rfl ?_
                refine bsplit (decide (r55 ≠ 0)) (fun hb56 => ?_) (fun hb56 => ?_)
                · rw [if_pos (of_decide_eq_true hb56)] at h
                  refine WQ_skip rfl (gdN (b := (decide (r55 ≠ 0))) 82 rfl rfl hb56) rfl ?_
                  refine WQ_skip rfl (gdN (b := (decide (r55 ≠ 0))) 82 rfl rfl hb56) rfl ?_
                  refine WQ_skip rfl (gdN (b := (decide (r55 ≠ 0))) 82 rfl rfl hb56) rfl ?_
                  refine WQ_skip rfl (gdN (b := (decide (r55 ≠ 0))) 82 rfl rfl hb56) rfl ?_
                  refine WQ_skip rfl (gdN (b := (decide (r55 ≠ 0))) 82 rfl rfl hb56) rfl ?_
                  refine WQ_skip rfl (gdN (b := (decide (r55 ≠ 0))) 82 rfl rfl hb56) rfl ?_
                  refine WQ_skip rfl (gdN (b := (decide (r55 ≠ 0))) 82 rfl rfl hb56) rfl ?_
                  refine WQ_skip rfl (gdN (b := (decide (r55 ≠ 0))) 82 rfl rfl hb56) rfl ?_
                  refine WQ_skip rfl (gdN (b := (decide (r55 ≠ 0))) 82 rfl rfl hb56) rfl ?_
                  refine WQ_skip rfl (gdN (b := (decide (r55 ≠ 0))) 82 rfl rfl hb56) rfl ?_
                  refine WQ_val rfl gd0 (o_pickT (v := .bool true) rfl hb56 rfl) rfl ?_
                  refine WQ_val rfl gd0 (o_move (v := .bool true) rfl) rfl ?_
                  refine WQ_skip rfl (gdN (b := true) 94 rfl rfl rfl) rfl ?_
                  refine WQ_skip rfl (gdN (b := true) 94 rfl rfl rfl) rfl ?_
                  refine WQ_skip rfl (gdN (b := true) 94 rfl rfl rfl) rfl ?_
                  refine WQ_skip rfl (gdN (b := true) 94 rfl rfl rfl) rfl ?_
                  refine WQ_skip rfl (gdN (b := true) 94 rfl rfl rfl) rfl ?_
                  refine WQ_skip rfl (gdN (b := true) 94 rfl rfl rfl) rfl ?_
                  refine WQ_skip rfl (gdN (b := true) 94 rfl rfl rfl) rfl ?_
                  refine WQ_val rfl gd0 (o_pickT (v := .bool true) rfl rfl rfl) rfl ?_
                  refine WQ_nil ?_
                  refine nrm ?_
                  refine WC_cond (t := true) rfl (fun _ => ?_) (fun hx => by rw [(rfl : true = true)] at hx; cases hx)
                  refine WC_seq ?_
                  refine WC_region ?_
                  refine WL_val gd0 ((o_assign (v := .bool false) rfl) _) rfl ?_
                  refine WL_nil ?_
                  refine nrm ?_
                  refine WC_ret ?_
                  refine rtB ?_
                  refine rtT ?_
                  refine rtT ?_
                  refine rtB ?_
                  refine rtT ?_
                  refine rtE ?_
                  exact gv1 rfl rfl h
                · rw [if_neg (of_decide_eq_false hb56)] at h
                  refine WQ_val rfl (gdY (b := (decide (r55 ≠ 0))) 82 rfl rfl hb56) (o_move (v := .slice r_a33 r_n34 r_c35) (by exact e9_41)) rfl ?_
                  refine WQ_val rfl (gdY (b := (decide (r55 ≠ 0))) 82 rfl rfl hb56) (o_move (v := .int .i64 i43) (by exact e11_42)) rfl ?_
                  obtain ⟨p59, q60, h⟩ := h
                  obtain ⟨l57, u58, h⟩ := h
                  refine WQ_val rfl (gdY (b := (decide (r55 ≠ 0))) 82 rfl rfl hb56) (o_indexAddr Try.underlying26 Try.sizeOf40 (by exact (congrArg (fun z => Value.slice z r_n34 r_c35) q60)) rfl l57 u58) rfl ?_
                  refine WQ_val rfl (gdY (b := (decide (r55 ≠ 0))) 82 rfl rfl hb56) (o_fieldAddr0 Try.underlying40 rfl Try.sizeOf3 rfl rfl rfl) rfl ?_
                  obtain ⟨x61, hc62, h⟩ := h
                  refine WQ_look (fun w => w.cell? (p59.add (i43.toNat * 2)) = some (.int .i64 x61)) rfl (gdY (b := (decide (r55 ≠ 0))) 82 rfl rfl hb56) (fun w hc => (o_load Try.isAgg3 rfl hc)) hc62 rfl ?_
                  refine WQ_val rfl (gdY (b := (decide (r55 ≠ 0))) 82 rfl rfl hb56) (o_move (v := .slice ids_a4 ids_n5 ids_c6) (by exact e1_39)) rfl ?_
                  refine WQ_val rfl (gdY (b := (decide (r55 ≠ 0))) 82 rfl rfl hb56) (o_move (v := .int .i64 i43) (by exact e11_42)) rfl ?_
                  obtain ⟨l63, u64, h⟩ := h
                  refine WQ_val rfl (gdY (b := (decide (r55 ≠ 0))) 82 rfl rfl hb56) (o_indexAddr1 Try.underlying23 Try.sizeOf3 (by exact (congrArg (fun z => Value.slice z ids_n5 ids_c6) q50)) rfl l63 u64) rfl ?_
                  obtain ⟨x65, hc66, h⟩ := h
                  refine WQ_look (fun w => w.cell? (p49.add i43.toNat) = some (.int .i64 x65)) rfl (gdY (b := (decide (r55 ≠ 0))) 82 rfl rfl hb56) (fun w hc => (o_load Try.isAgg3 rfl hc)) hc66 rfl ?_
                  refine WQ_val rfl (gdY (b := (decide (r55 ≠ 0))) 82 rfl rfl hb56) (o_neq rfl rfl) rfl ?_
                  refine WQ_val rfl gd0 (o_pickF (v := .bool (decide (x61 ≠ x65))) rfl hb56 rfl) rfl ?_
                  refine WQ_val rfl gd0 (o_move (v := .bool (decide (x61 ≠ x65))) rfl) rfl ?_
                  refine bsplit (decide (x61 ≠ x65)) (fun hb67 => ?_) (fun hb67 => ?_)
                  · rw [if_pos (of_decide_eq_true hb67)] at h
                    refine WQ_skip rfl (gdN (b := (decide (x61 ≠ x65))) 94 rfl rfl hb67) rfl ?_
                    refine WQ_skip rfl (gdN (b := (decide (x61 ≠ x65))) 94 rfl rfl hb67) rfl ?_
                    refine WQ_skip rfl (gdN (b := (decide (x61 ≠ x65))) 94 rfl rfl hb67) rfl ?_
                    refine WQ_skip rfl (gdN (b := (decide (x61 ≠ x65))) 94 rfl rfl hb67) rfl ?_
                    refine WQ_skip rfl (gdN (b := (decide (x61 ≠ x65))) 94 rfl rfl hb67) rfl ?_
                    refine WQ_skip rfl (gdN (b := (decide (x61 ≠ x65))) 94 rfl rfl hb67) rfl ?_
                    refine WQ_skip rfl (gdN (b := (decide (x61 ≠ x65))) 94 rfl rfl hb67) rfl ?_
                    refine WQ_val rfl gd0 (o_pickT (v := .bool true) rfl hb67 rfl) rfl ?_
                    refine WQ_nil ?_
                    refine nrm ?_
                    refine WC_cond (t := true) rfl (fun _ => ?_) (fun hx => by rw [(rfl : true = true)] at hx; cases hx)
                    refine WC_seq ?_
                    refine WC_region ?_
                    refine WL_val gd0 ((o_assign (v := .bool false) rfl) _) rfl ?_
                    refine WL_nil ?_
                    refine nrm ?_
                    refine WC_ret ?_
                    refine rtB ?_
                    refine rtT ?_
                    refine rtT ?_
                    refine rtB ?_
                    refine rtT ?_
                    refine rtE ?_
                    exact gv1 rfl rfl h
                  · rw [if_neg (of_decide_eq_false hb67)] at h
                    refine WQ_val rfl (gdY (b := (decide (x61 ≠ x65))) 94 rfl rfl hb67) (o_move (v := .slice r_a33 r_n34 r_c35) (by exact e9_41)) rfl ?_
                    refine WQ_val rfl (gdY (b := (decide (x61 ≠ x65))) 94 rfl rfl hb67) (o_move (v := .int .i64 i43) (by exact e11_42)) rfl ?_
                    obtain ⟨l68, u69, h⟩ := h
                    refine WQ_val rfl (gdY (b := (decide (x61 ≠ x65))) 94 rfl rfl hb67) (o_indexAddr Try.underlying26 Try.sizeOf40 (by exact (congrArg (fun z => Value.slice z r_n34 r_c35) q60)) rfl l68 u69) rfl ?_
                    refine WQ_val rfl (gdY (b := (decide (x61 ≠ x65))) 94 rfl rfl hb67) (o_fieldAddr 1 Try.underlying40 rfl Try.sizeOf3 rfl rfl rfl) rfl ?_
                    obtain ⟨x70, hc71, h⟩ := h
                    refine WQ_look (fun w => w.cell? ((p59.add (i43.toNat * 2)).add 1) = some (.int .i64 x70)) rfl (gdY (b := (decide (x61 ≠ x65))) 94 rfl rfl hb67) (fun w hc => (o_load Try.isAgg3 rfl hc)) hc71 rfl ?_
                    refine WQ_val rfl (gdY (b := (decide (x61 ≠ x65))) 94 rfl rfl hb67) (o_move (v := .int .i64 r54) rfl) rfl ?_
                    refine WQ_val rfl (gdY (b := (decide (x61 ≠ x65))) 94 rfl rfl hb67) (o_neq rfl rfl) rfl ?_
                    refine WQ_val rfl gd0 (o_pickF (v := .bool (decide (x70 ≠ r54))) rfl hb67 rfl) rfl ?_
                    refine WQ_nil ?_
                    refine nrm ?_
                    refine WC_cond (t := (decide (x70 ≠ r54))) rfl (fun hb72 => ?_) (fun hb72 => ?_)
                    · rw [if_pos (of_decide_eq_true hb72)] at h
                      refine WC_seq ?_
                      refine WC_region ?_
                      refine WL_val gd0 ((o_assign (v := .bool false) rfl) _) rfl ?_
                      refine WL_nil ?_
                      refine nrm ?_
                      refine WC_ret ?_
                      refine rtB ?_
                      refine rtT ?_
                      refine rtT ?_
                      refine rtB ?_
                      refine rtT ?_
                      refine rtE ?_
                      exact gv1 rfl rfl h
                    · rw [if_neg (of_decide_eq_false hb72)] at h
                      refine WC_skip ?_
                      refine nrmB ?_
                      refine nrm ?_
                      refine WC_region ?_
                      refine WL_val gd0 ((o_move (v := .int .i64 i43) (by exact e11_42)) _) rfl ?_
                      refine WL_val gd0 ((o_add rfl rfl) _) rfl ?_
                      refine WL_val gd0 ((o_assign (v := .int .i64 (IntKind.i64.wrap (i43 + 1))) rfl) _) rfl ?_
                      refine WL_nil ?_
                      refine nrm ?_
                      obtain ⟨m45, hm45, h⟩ := h
                      exact ⟨m45, hm45, _, rfl, e1_39, e5_40, e9_41, h⟩
              · rw [if_neg (of_decide_eq_false hb46)] at h
                refine WC_exit ?_
                refine exT ?_
                refine exT ?_
                refine exB ?_
                refine nrm ?_
                refine WC_seq ?_
                refine WC_region ?_
                refine WL_call gd0 (o_call Try.call9 argNil _) rfl (h.mono ?_)
                rintro _ w73 ⟨t74, rfl, h⟩
                refine WL_val gd0 ((o_assign (v := .bool t74) rfl) _) rfl ?_
                refine WL_nil ?_
                refine nrm ?_
                refine WC_ret ?_
                refine rtE ?_
                exact gv1 rfl rfl h

def F5_b3 (r_n50 : Nat) (r_a49 : Option Addr) (r17 : Option Addr) (ids_a27 : Option Addr) (ids_n28 : Nat) (ids_c29 : Nat) (b_a4 : Option Addr) (b_n5 : Nat) (b_c6 : Nat) (i63 : Int) (w64 : World) (k : Value → World → Prop) (nx64 : Int → World → Prop) : Prop :=
  if i63 < (r_n50 : Int) then
  ∃ (p69 : Addr), r_a49 = some p69 ∧ (0 : Int) ≤ i63 ∧ i63 < (r_n50 : Int) ∧ ∃ (x71 : Int), w64.drew.cell? (p69.add (i63.toNat * 2)) = some (.int .i64 x71) ∧ (0 : Int) ≤ i63 ∧ i63 < (r_n50 : Int) ∧ ∃ (x75 : Int), w64.drew.cell? ((p69.add (i63.toNat * 2)).add 1) = some (.int .i64 x75) ∧ Does Try.prog 16 #[.pointer r17, .int .i64 x71, .int .i64 x75] w64.drew (fun v w77 => ∃ (x78 : Int), v = .int .i64 x78 ∧ if x78 ≠ 0 then
    k (.bool false) w77
  else
    nx64 (IntKind.i64.wrap (i63 + 1)) w77)
else
  Does Try.prog 14 #[.pointer r17, .slice ids_a27 ids_n28 ids_c29] w64 (fun v w80 => ∃ (r_a81 : Option Addr) (r_n82 r_c83 : Nat) (r84 : Int), v = .tuple #[.slice r_a81 r_n82 r_c83, .int .i64 r84] ∧ if r84 = 0 then
    ∃ (s86 : ByteArray), (Conv.bytesToString (.slice r_a81 r_n82 r_c83)).run Try.prog w80 = .ok (.string s86) w80 ∧ ∃ (s88 : ByteArray), (Conv.bytesToString (.slice b_a4 b_n5 b_c6)).run Try.prog w80 = .ok (.string s88) w80 ∧ if (s86.toList == s88.toList) = true then
      Does Try.prog 9 #[] w80 (fun v w91 => ∃ (x92 : Bool), v = .bool x92 ∧ k (.bool x92) w91)
    else
      k (.bool false) w80
  else
    k (.bool false) w80)
def F5_b2 (l_a1 : Option Addr) (l_n2 : Nat) (l_c3 : Nat) (b_a4 : Option Addr) (b_n5 : Nat) (b_c6 : Nat) (r17 : Option Addr) (ids_a27 : Option Addr) (ids_n28 : Nat) (ids_c29 : Nat) (i31 : Int) (w32 : World) (nx32 : Option Addr → Nat → Nat → Int → World → Prop) (k : Value → World → Prop) : Prop :=
  if 0 ≤ i31 then
  ∃ (p37 : Addr), l_a1 = some p37 ∧ (0 : Int) ≤ i31 ∧ i31 < (l_n2 : Int) ∧ ∃ (x39 : Int), w32.cell? (p37.add (i31.toNat * 4)) = some (.int .i64 x39) ∧ New w32 3 [.int .i64 x39] (fun p41 w42 => ∃ (b_a43 : Option Addr) (b_n44 b_c45 : Nat) (w46 : World), (Builtin.append_ #[23, 23] 23 #[.slice ids_a27 ids_n28 ids_c29, .slice (some p41) 1 1]).run Try.prog w42 = .ok (.slice b_a43 b_n44 b_c45) w46 ∧ nx32 b_a43 b_n44 b_c45 (IntKind.i64.wrap (i31 - 1)) w46)
else
  Does Try.prog 10 #[.slice l_a1 l_n2 l_c3, .slice ids_a27 ids_n28 ids_c29, .slice b_a4 b_n5 b_c6] w32 (fun v w48 => ∃ (r_a49 : Option Addr) (r_n50 r_c51 : Nat) (r52 : Int), v = .tuple #[.slice r_a49 r_n50 r_c51, .int .i64 r52] ∧ if r52 ≠ 0 then
    if (r_n50 : Int) = 0 then
      Does Try.prog 9 #[] w48 (fun v w55 => ∃ (x56 : Bool), v = .bool x56 ∧ k (.bool x56) w55)
    else
      k (.bool false) w48
  else
    if (r_n50 : Int) ≠ (ids_n28 : Int) then
      k (.bool false) w48
    else
      LoopP (fun (s : Int) w' nx' => F5_b3 r_n50 r_a49 r17 ids_a27 ids_n28 ids_c29 b_a4 b_n5 b_c6 s w' k (fun x0 w => nx' x0 w)) 0 w48)
def F5_j1 (l_a1 : Option Addr) (l_n2 : Nat) (l_c3 : Nat) (b_a4 : Option Addr) (b_n5 : Nat) (b_c6 : Nat) (t11 : Bool) (w12 : World) (k : Value → World → Prop) : Prop :=
  if t11 = true then
  Does Try.prog 9 #[] w12 (fun v w14 => ∃ (t15 : Bool), v = .bool t15 ∧ k (.bool t15) w14)
else
  Does Try.prog 13 #[.slice l_a1 l_n2 l_c3] w12 (fun v w16 => ∃ (r17 : Option Addr) (r18 : Int), v = .tuple #[.pointer r17, .int .i64 r18] ∧ if r18 ≠ 0 then
    if (r17).isNone = true then
      Does Try.prog 9 #[] w16 (fun v w21 => ∃ (x22 : Bool), v = .bool x22 ∧ k (.bool x22) w21)
    else
      k (.bool false) w16
  else
    LoopP (fun (s : Option Addr × Nat × Nat × Int) w' nx' => F5_b2 l_a1 l_n2 l_c3 b_a4 b_n5 b_c6 r17 (s.1) (s.2.1) (s.2.2.1) (s.2.2.2) w' (fun x0 x1 x2 x3 w => nx' (x0, x1, x2, x3) w) k) (none, 0, 0, (IntKind.i64.wrap ((l_n2 : Int) - 1))) w16)
/-- spacecraft spacecraftlaw33.ParamsForms -/
def F5 (l_a1 : Option Addr) (l_n2 : Nat) (l_c3 : Nat) (b_a4 : Option Addr) (b_n5 : Nat) (b_c6 : Nat) (w7 : World) (k : Value → World → Prop) : Prop :=
  if 256 < (l_n2 : Int) then
  F5_j1 l_a1 l_n2 l_c3 b_a4 b_n5 b_c6 true w7 k
else
  F5_j1 l_a1 l_n2 l_c3 b_a4 b_n5 b_c6 (decide (1100 < (b_n5 : Int))) w7 k
set_option maxRecDepth 100000 in
set_option maxHeartbeats 2000000 in
theorem w5 (l_a1 : Option Addr) (l_n2 : Nat) (l_c3 : Nat) (b_a4 : Option Addr) (b_n5 : Nat) (b_c6 : Nat) (w7 : World) (k : Value → World → Prop) (h : F5 l_a1 l_n2 l_c3 b_a4 b_n5 b_c6 w7 k) : Does Try.prog 5 #[.slice l_a1 l_n2 l_c3, .slice b_a4 b_n5 b_c6] w7 k := by
  refine enter 107 Try.func5 rfl rfl rfl ?_
  intro ρ hρ
  have e0 := hρ 0 _ rfl
  have e1 := hρ 1 _ rfl
  unfold F5 at h
  refine WC_seq ?_
  refine WC_region ?_
  refine WL_val gd0 ((o_assign (v := .bool false) rfl) _) rfl ?_
  refine WL_nil ?_
  refine nrm ?_
  refine WC_seq ?_
  refine WC_cut (fun ρ w' => ∃ (t11 : Bool), ρ 21 = .bool t11 ∧ ρ 0 = .slice l_a1 l_n2 l_c3 ∧ ρ 1 = .slice b_a4 b_n5 b_c6 ∧ F5_j1 l_a1 l_n2 l_c3 b_a4 b_n5 b_c6 t11 w' k) ?_ ?_
  · refine WC_region ?_
    refine WL_val gd0 ((o_move (v := .slice l_a1 l_n2 l_c3) (by exact e0)) _) rfl ?_
    refine WL_val gd0 ((o_len Try.underlying22 rfl) _) rfl ?_
    refine WL_val gd0 ((o_gtr rfl rfl) _) rfl ?_
    refine WL_val gd0 ((o_move (v := .bool (decide (256 < (l_n2 : Int)))) rfl) _) rfl ?_
    refine bsplit (decide (256 < (l_n2 : Int))) (fun hb93 => ?_) (fun hb93 => ?_)
    · rw [if_pos (of_decide_eq_true hb93)] at h
      refine WL_skip (gdN (b := (decide (256 < (l_n2 : Int)))) 17 rfl rfl hb93) rfl ?_
      refine WL_skip (gdN (b := (decide (256 < (l_n2 : Int)))) 17 rfl rfl hb93) rfl ?_
      refine WL_skip (gdN (b := (decide (256 < (l_n2 : Int)))) 17 rfl rfl hb93) rfl ?_
      refine WL_val gd0 ((o_pickT (v := .bool true) rfl hb93 rfl) _) rfl ?_
      refine WL_nil ?_
      refine nrm ?_
      exact ⟨_, rfl, e0, e1, h⟩
    · rw [if_neg (of_decide_eq_false hb93)] at h
      refine WL_val (gdY (b := (decide (256 < (l_n2 : Int)))) 17 rfl rfl hb93) ((o_move (v := .slice b_a4 b_n5 b_c6) (by exact e1)) _) rfl ?_
      refine WL_val (gdY (b := (decide (256 < (l_n2 : Int)))) 17 rfl rfl hb93) ((o_len Try.underlying24 rfl) _) rfl ?_
      refine WL_val (gdY (b := (decide (256 < (l_n2 : Int)))) 17 rfl rfl hb93) ((o_gtr rfl rfl) _) rfl ?_
      refine WL_val gd0 ((o_pickF (v := .bool (decide (1100 < (b_n5 : Int)))) rfl hb93 rfl) _) rfl ?_
      refine WL_nil ?_
      refine nrm ?_
      exact ⟨_, rfl, e0, e1, h⟩
  · rintro ρ w12 ⟨t11, e21_10, e0_8, e1_9, h⟩
    unfold F5_j1 at h
    refine WC_cond (t := t11) (by exact e21_10) (fun hb13 => ?_) (fun hb13 => ?_)
    · rw [if_pos hb13] at h
      refine WC_seq ?_
      refine WC_region ?_
      refine WL_call gd0 (o_call Try.call9 argNil _) rfl (h.mono ?_)
      rintro _ w14 ⟨t15, rfl, h⟩
      refine WL_val gd0 ((o_assign (v := .bool t15) rfl) _) rfl ?_
      refine WL_nil ?_
      refine nrm ?_
      refine WC_ret ?_
      refine rtT ?_
      refine rtE ?_
      exact gv1 rfl rfl h
    · rw [if_neg (neT hb13)] at h
      refine WC_skip ?_
      refine nrm ?_
      refine WC_seq ?_
      refine WC_region ?_
      refine WL_val gd0 ((o_move (v := .slice l_a1 l_n2 l_c3) (by exact e0_8)) _) rfl ?_
      refine WL_call gd0 (o_call Try.call13 (argCons rfl argNil) _) rfl (h.mono ?_)
      rintro _ w16 ⟨r17, r18, rfl, h⟩
      refine WL_val gd0 ((o_move (v := .tuple #[.pointer r17, .int .i64 r18]) rfl) _) rfl ?_
      refine WL_val gd0 ((o_extract (vs := [.pointer r17, .int .i64 r18]) (r := .pointer r17) rfl rfl) _) rfl ?_
      refine WL_val gd0 ((o_extract (vs := [.pointer r17, .int .i64 r18]) (r := .int .i64 r18) rfl rfl) _) rfl ?_
      refine WL_val gd0 ((o_assign (v := .pointer r17) rfl) _) rfl ?_
      refine WL_val gd0 ((o_assign (v := .int .i64 r18) rfl) _) rfl ?_
      refine WL_nil ?_
      refine nrm ?_
      refine WC_seq ?_
      refine WC_seq ?_
      refine WC_region ?_
      refine WL_val gd0 ((o_move (v := .int .i64 r18) rfl) _) rfl ?_
      refine WL_val gd0 ((o_neq rfl rfl) _) rfl ?_
      refine WL_nil ?_
      refine nrm ?_
      refine WC_cond (t := (decide (r18 ≠ 0))) rfl (fun hb19 => ?_) (fun hb19 => ?_)
      · rw [if_pos (of_decide_eq_true hb19)] at h
        refine WC_seq ?_
        refine WC_region ?_
        refine WL_val gd0 ((o_move (v := .pointer r17) rfl) _) rfl ?_
        refine WL_val gd0 ((o_eqlPtrNil Try.underlying32 rfl rfl) _) rfl ?_
        refine WL_val gd0 ((o_move (v := .bool ((r17).isNone)) rfl) _) rfl ?_
        refine bsplit ((r17).isNone) (fun hb20 => ?_) (fun hb20 => ?_)
        · rw [if_pos hb20] at h
          refine WL_call (gdY (b := ((r17).isNone)) 32 rfl rfl hb20) (o_call Try.call9 argNil _) rfl (h.mono ?_)
          rintro _ w21 ⟨x22, rfl, h⟩
          refine WL_val gd0 ((o_pickT (v := .bool x22) rfl hb20 rfl) _) rfl ?_
          refine WL_val gd0 ((o_assign (v := .bool x22) rfl) _) rfl ?_
          refine WL_nil ?_
          refine nrm ?_
          refine WC_ret ?_
          refine rtT ?_
          refine rtE ?_
          exact gv1 rfl rfl h
        · rw [if_neg (neT hb20)] at h
          refine WL_skip (gdN (b := ((r17).isNone)) 32 rfl rfl hb20) rfl ?_
          refine WL_val gd0 ((o_pickF (v := .bool false) rfl hb20 rfl) _) rfl ?_
          refine WL_val gd0 ((o_assign (v := .bool false) rfl) _) rfl ?_
          refine WL_nil ?_
          refine nrm ?_
          refine WC_ret ?_
          refine rtT ?_
          refine rtE ?_
          exact gv1 rfl rfl h
      · rw [if_neg (of_decide_eq_false hb19)] at h
        refine WC_skip ?_
        refine nrm ?_
        refine WC_seq ?_
        refine WC_region ?_
        refine WL_val gd0 ((o_assign (v := .slice none 0 0) rfl) _) rfl ?_
        refine WL_nil ?_
        refine nrm ?_
        refine WC_seq ?_
        refine WC_seq ?_
        refine WC_region ?_
        refine WL_val gd0 ((o_move (v := .slice l_a1 l_n2 l_c3) (by exact e0_8)) _) rfl ?_
        refine WL_val gd0 ((o_len Try.underlying22 rfl) _) rfl ?_
        refine WL_val gd0 ((o_sub rfl rfl) _) rfl ?_
        refine WL_val gd0 ((o_assign (v := .int .i64 (IntKind.i64.wrap ((l_n2 : Int) - 1))) rfl) _) rfl ?_
        refine WL_nil ?_
        refine nrm ?_
        refine WC_block ?_
        obtain ⟨J32, ⟨n32, h0⟩, hr32⟩ := h
        refine WC_loop (fun n ρ w' => ∃ (ids_a27 : Option Addr) (ids_n28 ids_c29 : Nat) (i31 : Int), ρ 7 = .slice ids_a27 ids_n28 ids_c29 ∧ ρ 8 = .int .i64 i31 ∧ ρ 0 = .slice l_a1 l_n2 l_c3 ∧ ρ 1 = .slice b_a4 b_n5 b_c6 ∧ ρ 5 = .pointer r17 ∧ J32 n (ids_a27, ids_n28, ids_c29, i31) w') ⟨n32, _, _, _, _, rfl, rfl, e0_8, e1_9, rfl, h0⟩ ?_
        rintro n32 ρ w32 ⟨ids_a27, ids_n28, ids_c29, i31, e7_26, e8_30, e0_23, e1_24, e5_25, h⟩
        have h : F5_b2 l_a1 l_n2 l_c3 b_a4 b_n5 b_c6 r17 ids_a27 ids_n28 ids_c29 i31 w32 (fun x0 x1 x2 x3 w => ∃ m, m < n32 ∧ J32 m (x0, x1, x2, x3) w) k := hr32 n32 (ids_a27, ids_n28, ids_c29, i31) w32 h
        unfold F5_b2 at h
        refine WC_seq ?_
        refine WC_seq ?_
        refine WC_region ?_
        refine WL_val gd0 ((o_move (v := .int .i64 i31) (by exact e8_30)) _) rfl ?_
        refine WL_val gd0 ((o_geq rfl rfl) _) rfl ?_
        refine WL_nil ?_
        refine nrm ?_
        refine WC_cond (t := (decide (0 ≤ i31))) rfl (fun hb34 => ?_) (fun hb34 => ?_)
        · rw [if_pos (of_decide_eq_true hb34)] at h
          refine WC_skip ?_
          refine nrm ?_
          refine WC_seq ?_
          refine WC_block ?_
          refine WC_region ?_
          refine WL_val gd0 ((o_move (v := .slice ids_a27 ids_n28 ids_c29) (by exact e7_26)) _) rfl ?_
          refine WL_val gd0 ((o_move (v := .slice l_a1 l_n2 l_c3) (by exact e0_23)) _) rfl ?_
          refine WL_val gd0 ((o_move (v := .int .i64 i31) (by exact e8_30)) _) rfl ?_
          obtain ⟨p37, q38, h⟩ := h
          obtain ⟨l35, u36, h⟩ := h
          refine WL_val gd0 ((o_indexAddr Try.underlying22 Try.sizeOf43 (by exact (congrArg (fun z => Value.slice z l_n2 l_c3) q38)) rfl l35 u36) _) rfl ?_
          refine WL_val gd0 ((o_fieldAddr0 Try.underlying43 rfl Try.sizeOf3 rfl rfl rfl) _) rfl ?_
          obtain ⟨x39, hc40, h⟩ := h
          refine WL_val gd0 (o_load Try.isAgg3 rfl hc40) rfl ?_
          have h := New.out h
          refine WL_val gd0 (o_buildSlice (e := 3) (ps := [(0, .int .i64 x39)]) (cs := [.int .i64 x39]) (partCons rfl partNil) (fun w => by kernel_rfl)) rfl ?_
          generalize hp41 : fresh w32 = p41 at h ⊢
          generalize hw42 : push w32 3 [.int .i64 x39] = w42 at h ⊢
          try dsimp only at h
          obtain ⟨b_a43, b_n44, b_c45, w46, r47, h⟩ := h
          refine WL_val gd0 (o_append rfl rfl r47) rfl ?_
          refine WL_val gd0 ((o_assign (v := .slice b_a43 b_n44 b_c45) rfl) _) rfl ?_
          refine WL_nil ?_
          refine nrmB ?_
          refine nrm ?_
          refine WC_region ?_
          refine WL_val gd0 ((o_move (v := .int .i64 i31) (by exact e8_30)) _) rfl ?_
          refine WL_val gd0 ((o_sub rfl rfl) _) rfl ?_
          refine WL_val gd0 ((o_assign (v := .int .i64 (IntKind.i64.wrap (i31 - 1))) rfl) _) rfl ?_
          refine WL_nil ?_
          refine nrm ?_
          obtain ⟨m33, hm33, h⟩ := h
          exact ⟨m33, hm33, _, _, _, _, rfl, rfl, e0_23, e1_24, e5_25, h⟩
        · rw [if_neg (of_decide_eq_false hb34)] at h
          refine WC_exit ?_
          refine exT ?_
          refine exT ?_
          refine exB ?_
          refine nrm ?_
          refine WC_seq ?_
          refine WC_region ?_
          refine WL_val gd0 ((o_move (v := .slice l_a1 l_n2 l_c3) (by exact e0_23)) _) rfl ?_
          refine WL_val gd0 ((o_move (v := .slice ids_a27 ids_n28 ids_c29) (by exact e7_26)) _) rfl ?_
          refine WL_val gd0 ((o_move (v := .slice b_a4 b_n5 b_c6) (by exact e1_24)) _) rfl ?_
          refine WL_call gd0 (o_call Try.call10 (argCons rfl (argCons rfl (argCons rfl argNil))) _) rfl (h.mono ?_)
          rintro _ w48 ⟨r_a49, r_n50, r_c51, r52, rfl, h⟩
          refine WL_val gd0 ((o_move (v := .tuple #[.slice r_a49 r_n50 r_c51, .int .i64 r52]) rfl) _) rfl ?_
          refine WL_val gd0 ((o_extract (vs := [.slice r_a49 r_n50 r_c51, .int .i64 r52]) (r := .slice r_a49 r_n50 r_c51) rfl rfl) _) rfl ?_
          refine WL_val gd0 ((o_extract (vs := [.slice r_a49 r_n50 r_c51, .int .i64 r52]) (r := .int .i64 r52) rfl rfl) _) rfl ?_
          refine WL_val gd0 ((o_assign (v := .slice r_a49 r_n50 r_c51) rfl) _) rfl ?_
          refine WL_val gd0 ((o_assign (v := .int .i64 r52) rfl) _) rfl ?_
          refine WL_nil ?_
          refine nrm ?_
          refine WC_seq ?_
          refine WC_seq ?_
          refine WC_region ?_
          refine WL_val gd0 ((o_move (v := .int .i64 r52) rfl) _) rfl ?_
          refine WL_val gd0 ((o_neq rfl rfl) _) rfl ?_
          refine WL_nil ?_
          refine nrm ?_
          refine WC_cond (t := (decide (r52 ≠ 0))) rfl (fun hb53 => ?_) (fun hb53 => ?_)
          · rw [if_pos (of_decide_eq_true hb53)] at h
            refine WC_seq ?_
            refine WC_region ?_
            refine WL_val gd0 ((o_move (v := .slice r_a49 r_n50 r_c51) rfl) _) rfl ?_
            refine WL_val gd0 ((o_len Try.underlying26 rfl) _) rfl ?_
            refine WL_val gd0 ((o_eql rfl rfl) _) rfl ?_
            refine WL_val gd0 ((o_move (v := .bool (decide ((r_n50 : Int) = 0))) rfl) _) rfl ?_
            refine bsplit (decide ((r_n50 : Int) = 0)) (fun hb54 => ?_) (fun hb54 => ?_)
            · rw [if_pos (of_decide_eq_true hb54)] at h
              refine WL_call (gdY (b := (decide ((r_n50 : Int) = 0))) 62 rfl rfl hb54) (o_call Try.call9 argNil _) rfl (h.mono ?_)
              rintro _ w55 ⟨x56, rfl, h⟩
              refine WL_val gd0 ((o_pickT (v := .bool x56) rfl hb54 rfl) _) rfl ?_
              refine WL_val gd0 ((o_assign (v := .bool x56) rfl) _) rfl ?_
              refine WL_nil ?_
              refine nrm ?_
              refine WC_ret ?_
              refine rtT ?_
              refine rtE ?_
              exact gv1 rfl rfl h
            · rw [if_neg (of_decide_eq_false hb54)] at h
              refine WL_skip (gdN (b := (decide ((r_n50 : Int) = 0))) 62 rfl rfl hb54) rfl ?_
              refine WL_val gd0 ((o_pickF (v := .bool false) rfl hb54 rfl) _) rfl ?_
              refine WL_val gd0 ((o_assign (v := .bool false) rfl) _) rfl ?_
              refine WL_nil ?_
              refine nrm ?_
              refine WC_ret ?_
              refine rtT ?_
              refine rtE ?_
              exact gv1 rfl rfl h
          · rw [if_neg (of_decide_eq_false hb53)] at h
            refine WC_skip ?_
            refine nrm ?_
            refine WC_seq ?_
            refine WC_seq ?_
            refine WC_region ?_
            refine WL_val gd0 ((o_move (v := .slice r_a49 r_n50 r_c51) rfl) _) rfl ?_
            refine WL_val gd0 ((o_len Try.underlying26 rfl) _) rfl ?_
            refine WL_val gd0 ((o_move (v := .slice ids_a27 ids_n28 ids_c29) (by exact e7_26)) _) rfl ?_
            refine WL_val gd0 ((o_len Try.underlying23 rfl) _) rfl ?_
            refine WL_val gd0 ((o_neq rfl rfl) _) rfl ?_
            refine WL_nil ?_
            refine nrm ?_
            refine WC_cond (t := (decide ((r_n50 : Int) ≠ (ids_n28 : Int)))) rfl (fun hb57 => ?_) (fun hb57 => ?_)
            · rw [if_pos (of_decide_eq_true hb57)] at h
              refine WC_seq ?_
              refine WC_region ?_
              refine WL_val gd0 ((o_assign (v := .bool false) rfl) _) rfl ?_
              refine WL_nil ?_
              refine nrm ?_
              refine WC_ret ?_
              refine rtT ?_
              refine rtE ?_
              exact gv1 rfl rfl h
            · rw [if_neg (of_decide_eq_false hb57)] at h
              refine WC_skip ?_
              refine nrm ?_
              refine WC_seq ?_
              refine WC_seq ?_
              refine WC_region ?_
              refine WL_val gd0 ((o_assign (v := .int .i64 0) rfl) _) rfl ?_
              refine WL_nil ?_
              refine nrm ?_
              refine WC_block ?_
              obtain ⟨J64, ⟨n64, h0⟩, hr64⟩ := h
              refine WC_loop (fun n ρ w' => ∃ (i63 : Int), ρ 11 = .int .i64 i63 ∧ ρ 1 = .slice b_a4 b_n5 b_c6 ∧ ρ 5 = .pointer r17 ∧ ρ 7 = .slice ids_a27 ids_n28 ids_c29 ∧ ρ 9 = .slice r_a49 r_n50 r_c51 ∧ J64 n i63 w') ⟨n64, _, rfl, e1_24, e5_25, e7_26, rfl, h0⟩ ?_
              rintro n64 ρ w64 ⟨i63, e11_62, e1_58, e5_59, e7_60, e9_61, h⟩
              have h : F5_b3 r_n50 r_a49 r17 ids_a27 ids_n28 ids_c29 b_a4 b_n5 b_c6 i63 w64 k (fun x0 w => ∃ m, m < n64 ∧ J64 m x0 w) := hr64 n64 i63 w64 h
              unfold F5_b3 at h
              refine WC_seq ?_
              refine WC_seq ?_
              refine WC_region ?_
              refine WL_val gd0 ((o_move (v := .int .i64 i63) (by exact e11_62)) _) rfl ?_
              refine WL_val gd0 ((o_move (v := .slice r_a49 r_n50 r_c51) (by exact e9_61)) _) rfl ?_
              refine WL_val gd0 ((o_len Try.underlying26 rfl) _) rfl ?_
              refine WL_val gd0 ((o_lss rfl rfl) _) rfl ?_
              refine WL_nil ?_
              refine nrm ?_
              refine WC_cond (t := (decide (i63 < (r_n50 : Int)))) rfl (fun hb66 => ?_) (fun hb66 => ?_)
              · rw [if_pos (of_decide_eq_true hb66)] at h
                refine WC_skip ?_
                refine nrm ?_
                refine WC_seq ?_
                refine WC_block ?_
                refine WC_seq ?_
                refine WC_draws [11] (.look 0 (.look 1 (.look 2 (.look 3 (.look 4 (.look 5 (.look 6 (.look 7 (.look 8 (.look 9 (.look 10 (.act 11 (.look 12 .nil))))))))))))) Try.mixed (by kernel_rfl) ?_
                refine WQ_val rfl gd0 (o_move (v := .pointer r17) (by exact e5_59)) rfl ?_
                refine WQ_val rfl gd0 (o_move (v := .slice r_a49 r_n50 r_c51) (by exact e9_61)) rfl ?_
                refine WQ_val rfl gd0 (o_move (v := .int .i64 i63) (by exact e11_62)) rfl ?_
                obtain ⟨p69, q70, h⟩ := h
                obtain ⟨l67, u68, h⟩ := h
                refine WQ_val rfl gd0 (o_indexAddr Try.underlying26 Try.sizeOf40 (by exact (congrArg (fun z => Value.slice z r_n50 r_c51) q70)) rfl l67 u68) rfl ?_
                refine WQ_val rfl gd0 (o_fieldAddr0 Try.underlying40 rfl Try.sizeOf3 rfl rfl rfl) rfl ?_
                obtain ⟨x71, hc72, h⟩ := h
                refine WQ_look (fun w => w.cell? (p69.add (i63.toNat * 2)) = some (.int .i64 x71)) rfl gd0 (fun w hc => (o_load Try.isAgg3 rfl hc)) hc72 rfl ?_
                refine WQ_val rfl gd0 (o_move (v := .slice r_a49 r_n50 r_c51) (by exact e9_61)) rfl ?_
                refine WQ_val rfl gd0 (o_move (v := .int .i64 i63) (by exact e11_62)) rfl ?_
                obtain ⟨l73, u74, h⟩ := h
                refine WQ_val rfl gd0 (o_indexAddr Try.underlying26 Try.sizeOf40 (by exact (congrArg (fun z => Value.slice z r_n50 r_c51) q70)) rfl l73 u74) rfl ?_
                refine WQ_val rfl gd0 (o_fieldAddr 1 Try.underlying40 rfl Try.sizeOf3 rfl rfl rfl) rfl ?_
                obtain ⟨x75, hc76, h⟩ := h
                refine WQ_look (fun w => w.cell? ((p69.add (i63.toNat * 2)).add 1) = some (.int .i64 x75)) rfl gd0 (fun w hc => (o_load Try.isAgg3 rfl hc)) hc76 rfl ?_
                refine WQ_call rfl gd0 (o_call Try.call16 (argCons rfl (argCons rfl (argCons rfl argNil))) _) rfl (h.mono ?_)
                rintro _ w77 ⟨x78, rfl, h⟩
                refine ⟨⟨⟨trivial, depT (by kernel_rfl)⟩, depT (by kernel_rfl)⟩, ?_⟩
                refine WQ_val rfl gd0 (o_neq rfl rfl) rfl ?_
                refine WQ_nil ?_
                refine nrm ?_
                refine WC_cond (t := (decide (x78 ≠ 0))) rfl (fun hb79 => ?_) (fun hb79 => ?_)
                · rw [if_pos (of_decide_eq_true hb79)] at h
                  refine WC_seq ?_
                  refine WC_region ?_
                  refine WL_val gd0 ((o_assign (v := .bool false) rfl) _) rfl ?_
                  refine WL_nil ?_
                  refine nrm ?_
                  refine WC_ret ?_
                  refine rtB ?_
                  refine rtT ?_
                  refine rtT ?_
                  refine rtB ?_
                  refine rtT ?_
                  refine rtE ?_
                  exact gv1 rfl rfl h
                · rw [if_neg (of_decide_eq_false hb79)] at h
                  refine WC_skip ?_
                  refine nrmB ?_
                  refine nrm ?_
                  refine WC_region ?_
                  refine WL_val gd0 ((o_move (v := .int .i64 i63) (by exact e11_62)) _) rfl ?_
                  refine WL_val gd0 ((o_add rfl rfl) _) rfl ?_
                  refine WL_val gd0 ((o_assign (v := .int .i64 (IntKind.i64.wrap (i63 + 1))) rfl) _) rfl ?_
                  refine WL_nil ?_
                  refine nrm ?_
                  obtain ⟨m65, hm65, h⟩ := h
                  exact ⟨m65, hm65, _, rfl, e1_58, e5_59, e7_60, e9_61, h⟩
              · rw [if_neg (of_decide_eq_false hb66)] at h
                refine WC_exit ?_
                refine exT ?_
                refine exT ?_
                refine exB ?_
                refine nrm ?_
                refine WC_seq ?_
                refine WC_region ?_
                refine WL_val gd0 ((o_move (v := .pointer r17) (by exact e5_59)) _) rfl ?_
                refine WL_val gd0 ((o_move (v := .slice ids_a27 ids_n28 ids_c29) (by exact e7_60)) _) rfl ?_
                refine WL_call gd0 (o_call Try.call14 (argCons rfl (argCons rfl argNil)) _) rfl (h.mono ?_)
                rintro _ w80 ⟨r_a81, r_n82, r_c83, r84, rfl, h⟩
                refine WL_val gd0 ((o_move (v := .tuple #[.slice r_a81 r_n82 r_c83, .int .i64 r84]) rfl) _) rfl ?_
                refine WL_val gd0 ((o_extract (vs := [.slice r_a81 r_n82 r_c83, .int .i64 r84]) (r := .slice r_a81 r_n82 r_c83) rfl rfl) _) rfl ?_
                refine WL_val gd0 ((o_extract (vs := [.slice r_a81 r_n82 r_c83, .int .i64 r84]) (r := .int .i64 r84) rfl rfl) _) rfl ?_
                refine WL_val gd0 ((o_assign (v := .slice r_a81 r_n82 r_c83) rfl) _) rfl ?_
                refine WL_val gd0 ((o_assign (v := .int .i64 r84) rfl) _) rfl ?_
                refine WL_nil ?_
                refine nrm ?_
                refine WC_seq ?_
                refine WC_region ?_
                refine WL_val gd0 ((o_move (v := .int .i64 r84) rfl) _) rfl ?_
                refine WL_val gd0 ((o_eql rfl rfl) _) rfl ?_
                refine WL_val gd0 ((o_move (v := .bool (decide (r84 = 0))) rfl) _) rfl ?_
                refine bsplit (decide (r84 = 0)) (fun hb85 => ?_) (fun hb85 => ?_)
                · rw [if_pos (of_decide_eq_true hb85)] at h
                  refine WL_val (gdY (b := (decide (r84 = 0))) 97 rfl rfl hb85) ((o_move (v := .slice r_a81 r_n82 r_c83) rfl) _) rfl ?_
                  obtain ⟨s86, r87, h⟩ := h
                  refine WL_val (gdY (b := (decide (r84 = 0))) 97 rfl rfl hb85) (o_toStr Try.underlying24 Try.underlying5 Try.underlying9 rfl r87) rfl ?_
                  refine WL_val (gdY (b := (decide (r84 = 0))) 97 rfl rfl hb85) ((o_move (v := .slice b_a4 b_n5 b_c6) (by exact e1_58)) _) rfl ?_
                  obtain ⟨s88, r89, h⟩ := h
                  refine WL_val (gdY (b := (decide (r84 = 0))) 97 rfl rfl hb85) (o_toStr Try.underlying24 Try.underlying5 Try.underlying9 rfl r89) rfl ?_
                  refine WL_val (gdY (b := (decide (r84 = 0))) 97 rfl rfl hb85) ((o_eqlStr rfl rfl) _) rfl ?_
                  refine WL_val gd0 ((o_pickT (v := .bool (s86.toList == s88.toList)) rfl hb85 rfl) _) rfl ?_
                  refine WL_val gd0 ((o_move (v := .bool (s86.toList == s88.toList)) rfl) _) rfl ?_
                  refine bsplit (s86.toList == s88.toList) (fun hb90 => ?_) (fun hb90 => ?_)
                  · rw [if_pos hb90] at h
                    refine WL_call (gdY (b := (s86.toList == s88.toList)) 104 rfl rfl hb90) (o_call Try.call9 argNil _) rfl (h.mono ?_)
                    rintro _ w91 ⟨x92, rfl, h⟩
                    refine WL_val gd0 ((o_pickT (v := .bool x92) rfl hb90 rfl) _) rfl ?_
                    refine WL_val gd0 ((o_assign (v := .bool x92) rfl) _) rfl ?_
                    refine WL_nil ?_
                    refine nrm ?_
                    refine WC_ret ?_
                    refine rtE ?_
                    exact gv1 rfl rfl h
                  · rw [if_neg (neT hb90)] at h
                    refine WL_skip (gdN (b := (s86.toList == s88.toList)) 104 rfl rfl hb90) rfl ?_
                    refine WL_val gd0 ((o_pickF (v := .bool false) rfl hb90 rfl) _) rfl ?_
                    refine WL_val gd0 ((o_assign (v := .bool false) rfl) _) rfl ?_
                    refine WL_nil ?_
                    refine nrm ?_
                    refine WC_ret ?_
                    refine rtE ?_
                    exact gv1 rfl rfl h
                · rw [if_neg (of_decide_eq_false hb85)] at h
                  refine WL_skip (gdN (b := (decide (r84 = 0))) 97 rfl rfl hb85) rfl ?_
                  refine WL_skip (gdN (b := (decide (r84 = 0))) 97 rfl rfl hb85) rfl ?_
                  refine WL_skip (gdN (b := (decide (r84 = 0))) 97 rfl rfl hb85) rfl ?_
                  refine WL_skip (gdN (b := (decide (r84 = 0))) 97 rfl rfl hb85) rfl ?_
                  refine WL_skip (gdN (b := (decide (r84 = 0))) 97 rfl rfl hb85) rfl ?_
                  refine WL_val gd0 ((o_pickF (v := .bool false) rfl hb85 rfl) _) rfl ?_
                  refine WL_val gd0 ((o_move (v := .bool false) rfl) _) rfl ?_
                  refine WL_skip (gdN (b := false) 104 rfl rfl rfl) rfl ?_
                  refine WL_val gd0 ((o_pickF (v := .bool false) rfl rfl rfl) _) rfl ?_
                  refine WL_val gd0 ((o_assign (v := .bool false) rfl) _) rfl ?_
                  refine WL_nil ?_
                  refine nrm ?_
                  refine WC_ret ?_
                  refine rtE ?_
                  exact gv1 rfl rfl h

def F6_b2 (l_n2 : Nat) (p26 : Addr) (r17 : Option Addr) (at4 : Int) (f31 : Int) (v5 : Int) (i38 : Int) (w39 : World) (k : Value → World → Prop) (nx39 : Int → World → Prop) : Prop :=
  if i38 < (l_n2 : Int) then
  (0 : Int) ≤ i38 ∧ i38 < (l_n2 : Int) ∧ ∃ (x44 : Int), w39.cell? (p26.add (i38.toNat * 4)) = some (.int .i64 x44) ∧ Does Try.prog 15 #[.pointer r17, .int .i64 x44] w39 (fun v w46 => ∃ (r47 r48 : Int), v = .tuple #[.int .i64 r47, .int .i64 r48] ∧ if r48 ≠ 0 then
    k (.bool false) w46
  else
    if i38 ≠ (Int.tmod (IntKind.i64.wrap at4) (l_n2 : Int)) then
      (0 : Int) ≤ i38 ∧ i38 < (l_n2 : Int) ∧ ∃ (x53 : Int), w46.cell? ((p26.add (i38.toNat * 4)).add 3) = some (.int .i64 x53) ∧ if r47 ≠ x53 then
        k (.bool false) w46
      else
        if i38 = (Int.tmod (IntKind.i64.wrap at4) (l_n2 : Int)) then
          if f31 = 0 then
            if r47 ≠ v5 then
              k (.bool false) w46
            else
              if f31 ≠ 0 then
                (0 : Int) ≤ i38 ∧ i38 < (l_n2 : Int) ∧ ∃ (x62 : Int), w46.cell? ((p26.add (i38.toNat * 4)).add 3) = some (.int .i64 x62) ∧ if r47 ≠ x62 then
                  k (.bool false) w46
                else
                  nx39 (IntKind.i64.wrap (i38 + 1)) w46
              else
                nx39 (IntKind.i64.wrap (i38 + 1)) w46
          else
            if f31 ≠ 0 then
              (0 : Int) ≤ i38 ∧ i38 < (l_n2 : Int) ∧ ∃ (x68 : Int), w46.cell? ((p26.add (i38.toNat * 4)).add 3) = some (.int .i64 x68) ∧ if r47 ≠ x68 then
                k (.bool false) w46
              else
                nx39 (IntKind.i64.wrap (i38 + 1)) w46
            else
              nx39 (IntKind.i64.wrap (i38 + 1)) w46
        else
          nx39 (IntKind.i64.wrap (i38 + 1)) w46
    else
      if i38 = (Int.tmod (IntKind.i64.wrap at4) (l_n2 : Int)) then
        if f31 = 0 then
          if r47 ≠ v5 then
            k (.bool false) w46
          else
            if f31 ≠ 0 then
              (0 : Int) ≤ i38 ∧ i38 < (l_n2 : Int) ∧ ∃ (x77 : Int), w46.cell? ((p26.add (i38.toNat * 4)).add 3) = some (.int .i64 x77) ∧ if r47 ≠ x77 then
                k (.bool false) w46
              else
                nx39 (IntKind.i64.wrap (i38 + 1)) w46
            else
              nx39 (IntKind.i64.wrap (i38 + 1)) w46
        else
          if f31 ≠ 0 then
            (0 : Int) ≤ i38 ∧ i38 < (l_n2 : Int) ∧ ∃ (x83 : Int), w46.cell? ((p26.add (i38.toNat * 4)).add 3) = some (.int .i64 x83) ∧ if r47 ≠ x83 then
              k (.bool false) w46
            else
              nx39 (IntKind.i64.wrap (i38 + 1)) w46
          else
            nx39 (IntKind.i64.wrap (i38 + 1)) w46
      else
        nx39 (IntKind.i64.wrap (i38 + 1)) w46)
else
  if f31 = 0 then
    Does Try.prog 17 #[.pointer r17] w39 (fun v w87 => ∃ (x_a88 : Option Addr) (x_n89 x_c90 : Nat), v = .slice x_a88 x_n89 x_c90 ∧ if (x_n89 : Int) = (l_n2 : Int) then
      Does Try.prog 9 #[] w87 (fun v w92 => ∃ (x93 : Bool), v = .bool x93 ∧ k (.bool x93) w92)
    else
      k (.bool false) w87)
  else
    if f31 = 1 then
      Does Try.prog 17 #[.pointer r17] w39 (fun v w95 => ∃ (x_a96 : Option Addr) (x_n97 x_c98 : Nat), v = .slice x_a96 x_n97 x_c98 ∧ if (x_n97 : Int) = (l_n2 : Int) then
        Does Try.prog 9 #[] w95 (fun v w100 => ∃ (x101 : Bool), v = .bool x101 ∧ k (.bool x101) w100)
      else
        k (.bool false) w95)
    else
      k (.bool false) w39
def F6_j1 (l_a1 : Option Addr) (l_n2 : Nat) (l_c3 : Nat) (at4 : Int) (v5 : Int) (t11 : Bool) (w12 : World) (k : Value → World → Prop) : Prop :=
  if t11 = true then
  Does Try.prog 9 #[] w12 (fun v w14 => ∃ (t15 : Bool), v = .bool t15 ∧ k (.bool t15) w14)
else
  Does Try.prog 13 #[.slice l_a1 l_n2 l_c3] w12 (fun v w16 => ∃ (r17 : Option Addr) (r18 : Int), v = .tuple #[.pointer r17, .int .i64 r18] ∧ if r18 ≠ 0 then
    if (r17).isNone = true then
      Does Try.prog 9 #[] w16 (fun v w21 => ∃ (x22 : Bool), v = .bool x22 ∧ k (.bool x22) w21)
    else
      k (.bool false) w16
  else
    (l_n2 : Int) ≠ 0 ∧ ∃ (p26 : Addr), l_a1 = some p26 ∧ (0 : Int) ≤ Int.tmod (IntKind.i64.wrap at4) (l_n2 : Int) ∧ Int.tmod (IntKind.i64.wrap at4) (l_n2 : Int) < (l_n2 : Int) ∧ ∃ (x28 : Int), w16.cell? (p26.add (((Int.tmod (IntKind.i64.wrap at4) (l_n2 : Int)).toNat) * 4)) = some (.int .i64 x28) ∧ Does Try.prog 16 #[.pointer r17, .int .i64 x28, .int .i64 v5] w16 (fun v w30 => ∃ (f31 : Int), v = .int .i64 f31 ∧ LoopP (fun (s : Int) w' nx' => F6_b2 l_n2 p26 r17 at4 f31 v5 s w' k (fun x0 w => nx' x0 w)) 0 w30))
/-- spacecraft spacecraftlaw33.ParamsApart -/
def F6 (l_a1 : Option Addr) (l_n2 : Nat) (l_c3 : Nat) (at4 : Int) (v5 : Int) (w6 : World) (k : Value → World → Prop) : Prop :=
  if 256 < (l_n2 : Int) then
  F6_j1 l_a1 l_n2 l_c3 at4 v5 true w6 k
else
  F6_j1 l_a1 l_n2 l_c3 at4 v5 (decide ((l_n2 : Int) = 0)) w6 k
set_option maxRecDepth 100000 in
set_option maxHeartbeats 2000000 in
theorem w6 (l_a1 : Option Addr) (l_n2 : Nat) (l_c3 : Nat) (at4 : Int) (v5 : Int) (w6 : World) (k : Value → World → Prop) (h : F6 l_a1 l_n2 l_c3 at4 v5 w6 k) : Does Try.prog 6 #[.slice l_a1 l_n2 l_c3, .int .u8 at4, .int .i64 v5] w6 k := by
  refine enter 124 Try.func6 rfl rfl rfl ?_
  intro ρ hρ
  have e0 := hρ 0 _ rfl
  have e1 := hρ 1 _ rfl
  have e2 := hρ 2 _ rfl
  unfold F6 at h
  refine WC_seq ?_
  refine WC_region ?_
  refine WL_val gd0 ((o_assign (v := .bool false) rfl) _) rfl ?_
  refine WL_nil ?_
  refine nrm ?_
  refine WC_seq ?_
  refine WC_cut (fun ρ w' => ∃ (t11 : Bool), ρ 21 = .bool t11 ∧ ρ 0 = .slice l_a1 l_n2 l_c3 ∧ ρ 1 = .int .u8 at4 ∧ ρ 2 = .int .i64 v5 ∧ F6_j1 l_a1 l_n2 l_c3 at4 v5 t11 w' k) ?_ ?_
  · refine WC_region ?_
    refine WL_val gd0 ((o_move (v := .slice l_a1 l_n2 l_c3) (by exact e0)) _) rfl ?_
    refine WL_val gd0 ((o_len Try.underlying22 rfl) _) rfl ?_
    refine WL_val gd0 ((o_gtr rfl rfl) _) rfl ?_
    refine WL_val gd0 ((o_move (v := .bool (decide (256 < (l_n2 : Int)))) rfl) _) rfl ?_
    refine bsplit (decide (256 < (l_n2 : Int))) (fun hb102 => ?_) (fun hb102 => ?_)
    · rw [if_pos (of_decide_eq_true hb102)] at h
      refine WL_skip (gdN (b := (decide (256 < (l_n2 : Int)))) 17 rfl rfl hb102) rfl ?_
      refine WL_skip (gdN (b := (decide (256 < (l_n2 : Int)))) 17 rfl rfl hb102) rfl ?_
      refine WL_skip (gdN (b := (decide (256 < (l_n2 : Int)))) 17 rfl rfl hb102) rfl ?_
      refine WL_val gd0 ((o_pickT (v := .bool true) rfl hb102 rfl) _) rfl ?_
      refine WL_nil ?_
      refine nrm ?_
      exact ⟨_, rfl, e0, e1, e2, h⟩
    · rw [if_neg (of_decide_eq_false hb102)] at h
      refine WL_val (gdY (b := (decide (256 < (l_n2 : Int)))) 17 rfl rfl hb102) ((o_move (v := .slice l_a1 l_n2 l_c3) (by exact e0)) _) rfl ?_
      refine WL_val (gdY (b := (decide (256 < (l_n2 : Int)))) 17 rfl rfl hb102) ((o_len Try.underlying22 rfl) _) rfl ?_
      refine WL_val (gdY (b := (decide (256 < (l_n2 : Int)))) 17 rfl rfl hb102) ((o_eql rfl rfl) _) rfl ?_
      refine WL_val gd0 ((o_pickF (v := .bool (decide ((l_n2 : Int) = 0))) rfl hb102 rfl) _) rfl ?_
      refine WL_nil ?_
      refine nrm ?_
      exact ⟨_, rfl, e0, e1, e2, h⟩
  · rintro ρ w12 ⟨t11, e21_10, e0_7, e1_8, e2_9, h⟩
    unfold F6_j1 at h
    refine WC_cond (t := t11) (by exact e21_10) (fun hb13 => ?_) (fun hb13 => ?_)
    · rw [if_pos hb13] at h
      refine WC_seq ?_
      refine WC_region ?_
      refine WL_call gd0 (o_call Try.call9 argNil _) rfl (h.mono ?_)
      rintro _ w14 ⟨t15, rfl, h⟩
      refine WL_val gd0 ((o_assign (v := .bool t15) rfl) _) rfl ?_
      refine WL_nil ?_
      refine nrm ?_
      refine WC_ret ?_
      refine rtT ?_
      refine rtE ?_
      exact gv1 rfl rfl h
    · rw [if_neg (neT hb13)] at h
      refine WC_skip ?_
      refine nrm ?_
      refine WC_seq ?_
      refine WC_region ?_
      refine WL_val gd0 ((o_move (v := .slice l_a1 l_n2 l_c3) (by exact e0_7)) _) rfl ?_
      refine WL_call gd0 (o_call Try.call13 (argCons rfl argNil) _) rfl (h.mono ?_)
      rintro _ w16 ⟨r17, r18, rfl, h⟩
      refine WL_val gd0 ((o_move (v := .tuple #[.pointer r17, .int .i64 r18]) rfl) _) rfl ?_
      refine WL_val gd0 ((o_extract (vs := [.pointer r17, .int .i64 r18]) (r := .pointer r17) rfl rfl) _) rfl ?_
      refine WL_val gd0 ((o_extract (vs := [.pointer r17, .int .i64 r18]) (r := .int .i64 r18) rfl rfl) _) rfl ?_
      refine WL_val gd0 ((o_assign (v := .pointer r17) rfl) _) rfl ?_
      refine WL_val gd0 ((o_assign (v := .int .i64 r18) rfl) _) rfl ?_
      refine WL_nil ?_
      refine nrm ?_
      refine WC_seq ?_
      refine WC_seq ?_
      refine WC_region ?_
      refine WL_val gd0 ((o_move (v := .int .i64 r18) rfl) _) rfl ?_
      refine WL_val gd0 ((o_neq rfl rfl) _) rfl ?_
      refine WL_nil ?_
      refine nrm ?_
      refine WC_cond (t := (decide (r18 ≠ 0))) rfl (fun hb19 => ?_) (fun hb19 => ?_)
      · rw [if_pos (of_decide_eq_true hb19)] at h
        refine WC_seq ?_
        refine WC_region ?_
        refine WL_val gd0 ((o_move (v := .pointer r17) rfl) _) rfl ?_
        refine WL_val gd0 ((o_eqlPtrNil Try.underlying32 rfl rfl) _) rfl ?_
        refine WL_val gd0 ((o_move (v := .bool ((r17).isNone)) rfl) _) rfl ?_
        refine bsplit ((r17).isNone) (fun hb20 => ?_) (fun hb20 => ?_)
        · rw [if_pos hb20] at h
          refine WL_call (gdY (b := ((r17).isNone)) 32 rfl rfl hb20) (o_call Try.call9 argNil _) rfl (h.mono ?_)
          rintro _ w21 ⟨x22, rfl, h⟩
          refine WL_val gd0 ((o_pickT (v := .bool x22) rfl hb20 rfl) _) rfl ?_
          refine WL_val gd0 ((o_assign (v := .bool x22) rfl) _) rfl ?_
          refine WL_nil ?_
          refine nrm ?_
          refine WC_ret ?_
          refine rtT ?_
          refine rtE ?_
          exact gv1 rfl rfl h
        · rw [if_neg (neT hb20)] at h
          refine WL_skip (gdN (b := ((r17).isNone)) 32 rfl rfl hb20) rfl ?_
          refine WL_val gd0 ((o_pickF (v := .bool false) rfl hb20 rfl) _) rfl ?_
          refine WL_val gd0 ((o_assign (v := .bool false) rfl) _) rfl ?_
          refine WL_nil ?_
          refine nrm ?_
          refine WC_ret ?_
          refine rtT ?_
          refine rtE ?_
          exact gv1 rfl rfl h
      · rw [if_neg (of_decide_eq_false hb19)] at h
        refine WC_skip ?_
        refine nrm ?_
        refine WC_seq ?_
        refine WC_region ?_
        refine WL_val gd0 ((o_move (v := .int .u8 at4) (by exact e1_8)) _) rfl ?_
        refine WL_val gd0 ((o_conv Try.underlying5 Try.underlying3 rfl) _) rfl ?_
        refine WL_val gd0 ((o_move (v := .slice l_a1 l_n2 l_c3) (by exact e0_7)) _) rfl ?_
        refine WL_val gd0 ((o_len Try.underlying22 rfl) _) rfl ?_
        obtain ⟨c23, h⟩ := h
        refine WL_val gd0 ((fun w => o_rem rfl rfl w c23) _) rfl ?_
        refine WL_val gd0 ((o_assign (v := .int .i64 (Int.tmod (IntKind.i64.wrap at4) (l_n2 : Int))) rfl) _) rfl ?_
        refine WL_nil ?_
        refine nrm ?_
        refine WC_seq ?_
        refine WC_region ?_
        refine WL_val gd0 ((o_move (v := .pointer r17) rfl) _) rfl ?_
        refine WL_val gd0 ((o_move (v := .slice l_a1 l_n2 l_c3) (by exact e0_7)) _) rfl ?_
        refine WL_val gd0 ((o_move (v := .int .i64 (Int.tmod (IntKind.i64.wrap at4) (l_n2 : Int))) rfl) _) rfl ?_
        obtain ⟨p26, q27, h⟩ := h
        obtain ⟨l24, u25, h⟩ := h
        refine WL_val gd0 ((o_indexAddr Try.underlying22 Try.sizeOf43 (by exact (congrArg (fun z => Value.slice z l_n2 l_c3) q27)) rfl l24 u25) _) rfl ?_
        refine WL_val gd0 ((o_fieldAddr0 Try.underlying43 rfl Try.sizeOf3 rfl rfl rfl) _) rfl ?_
        obtain ⟨x28, hc29, h⟩ := h
        refine WL_val gd0 (o_load Try.isAgg3 rfl hc29) rfl ?_
        refine WL_val gd0 ((o_move (v := .int .i64 v5) (by exact e2_9)) _) rfl ?_
        refine WL_call gd0 (o_call Try.call16 (argCons rfl (argCons rfl (argCons rfl argNil))) _) rfl (h.mono ?_)
        rintro _ w30 ⟨f31, rfl, h⟩
        refine WL_val gd0 ((o_assign (v := .int .i64 f31) rfl) _) rfl ?_
        refine WL_nil ?_
        refine nrm ?_
        refine WC_seq ?_
        refine WC_seq ?_
        refine WC_region ?_
        refine WL_val gd0 ((o_assign (v := .int .i64 0) rfl) _) rfl ?_
        refine WL_nil ?_
        refine nrm ?_
        refine WC_block ?_
        obtain ⟨J39, ⟨n39, h0⟩, hr39⟩ := h
        refine WC_loop (fun n ρ w' => ∃ (i38 : Int), ρ 11 = .int .i64 i38 ∧ ρ 0 = .slice l_a1 l_n2 l_c3 ∧ ρ 2 = .int .i64 v5 ∧ ρ 7 = .pointer r17 ∧ ρ 9 = .int .i64 (Int.tmod (IntKind.i64.wrap at4) (l_n2 : Int)) ∧ ρ 10 = .int .i64 f31 ∧ J39 n i38 w') ⟨n39, _, rfl, e0_7, e2_9, rfl, rfl, rfl, h0⟩ ?_
        rintro n39 ρ w39 ⟨i38, e11_37, e0_32, e2_33, e7_34, e9_35, e10_36, h⟩
        have h : F6_b2 l_n2 p26 r17 at4 f31 v5 i38 w39 k (fun x0 w => ∃ m, m < n39 ∧ J39 m x0 w) := hr39 n39 i38 w39 h
        unfold F6_b2 at h
        refine WC_seq ?_
        refine WC_seq ?_
        refine WC_region ?_
        refine WL_val gd0 ((o_move (v := .int .i64 i38) (by exact e11_37)) _) rfl ?_
        refine WL_val gd0 ((o_move (v := .slice l_a1 l_n2 l_c3) (by exact e0_32)) _) rfl ?_
        refine WL_val gd0 ((o_len Try.underlying22 rfl) _) rfl ?_
        refine WL_val gd0 ((o_lss rfl rfl) _) rfl ?_
        refine WL_nil ?_
        refine nrm ?_
        refine WC_cond (t := (decide (i38 < (l_n2 : Int)))) rfl (fun hb41 => ?_) (fun hb41 => ?_)
        · rw [if_pos (of_decide_eq_true hb41)] at h
          refine WC_skip ?_
          refine nrm ?_
          refine WC_seq ?_
          refine WC_block ?_
          refine WC_seq ?_
          refine WC_region ?_
          refine WL_val gd0 ((o_move (v := .pointer r17) (by exact e7_34)) _) rfl ?_
          refine WL_val gd0 ((o_move (v := .slice l_a1 l_n2 l_c3) (by exact e0_32)) _) rfl ?_
          refine WL_val gd0 ((o_move (v := .int .i64 i38) (by exact e11_37)) _) rfl ?_
          obtain ⟨l42, u43, h⟩ := h
          refine WL_val gd0 ((o_indexAddr Try.underlying22 Try.sizeOf43 (by exact (congrArg (fun z => Value.slice z l_n2 l_c3) q27)) rfl l42 u43) _) rfl ?_
          refine WL_val gd0 ((o_fieldAddr0 Try.underlying43 rfl Try.sizeOf3 rfl rfl rfl) _) rfl ?_
          obtain ⟨x44, hc45, h⟩ := h
          refine WL_val gd0 (o_load Try.isAgg3 rfl hc45) rfl ?_
          refine WL_call gd0 (o_call Try.call15 (argCons rfl (argCons rfl argNil)) _) rfl (h.mono ?_)
          rintro _ w46 ⟨r47, r48, rfl, h⟩
          refine WL_val gd0 ((o_move (v := .tuple #[.int .i64 r47, .int .i64 r48]) rfl) _) rfl ?_
          refine WL_val gd0 ((o_extract (vs := [.int .i64 r47, .int .i64 r48]) (r := .int .i64 r47) rfl rfl) _) rfl ?_
          refine WL_val gd0 ((o_extract (vs := [.int .i64 r47, .int .i64 r48]) (r := .int .i64 r48) rfl rfl) _) rfl ?_
          refine WL_val gd0 ((o_assign (v := .int .i64 r47) rfl) _) rfl ?_
          refine WL_val gd0 ((o_assign (v := .int .i64 r48) rfl) _) rfl ?_
          refine WL_nil ?_
          refine nrm ?_
          refine WC_seq ?_
          refine WC_region ?_
          refine WL_val gd0 ((o_move (v := .int .i64 r48) rfl) _) rfl ?_
          refine WL_val gd0 ((o_neq rfl rfl) _) rfl ?_
          refine WL_val gd0 ((o_move (v := .bool (decide (r48 ≠ 0))) rfl) _) rfl ?_
          refine bsplit (decide (r48 ≠ 0)) (fun hb49 => ?_) (fun hb49 => ?_)
          · rw [if_pos (of_decide_eq_true hb49)] at h
            refine WL_skip (gdN (b := (decide (r48 ≠ 0))) 66 rfl rfl hb49) rfl ?_
            refine WL_skip (gdN (b := (decide (r48 ≠ 0))) 66 rfl rfl hb49) rfl ?_
            refine WL_skip (gdN (b := (decide (r48 ≠ 0))) 66 rfl rfl hb49) rfl ?_
            refine WL_skip (gdN (b := (decide (r48 ≠ 0))) 66 rfl rfl hb49) rfl ?_
            refine WL_skip (gdU 70 rfl rfl) rfl ?_
            refine WL_skip (gdU 70 rfl rfl) rfl ?_
            refine WL_skip (gdU 70 rfl rfl) rfl ?_
            refine WL_skip (gdU 70 rfl rfl) rfl ?_
            refine WL_skip (gdU 70 rfl rfl) rfl ?_
            refine WL_skip (gdU 70 rfl rfl) rfl ?_
            refine WL_skip (gdU 70 rfl rfl) rfl ?_
            refine WL_skip (gdN (b := (decide (r48 ≠ 0))) 66 rfl rfl hb49) rfl ?_
            refine WL_val gd0 ((o_pickT (v := .bool true) rfl hb49 rfl) _) rfl ?_
            refine WL_val gd0 ((o_move (v := .bool true) rfl) _) rfl ?_
            refine WL_skip (gdN (b := true) 80 rfl rfl rfl) rfl ?_
            refine WL_skip (gdN (b := true) 80 rfl rfl rfl) rfl ?_
            refine WL_skip (gdN (b := true) 80 rfl rfl rfl) rfl ?_
            refine WL_skip (gdN (b := true) 80 rfl rfl rfl) rfl ?_
            refine WL_skip (gdU 84 rfl rfl) rfl ?_
            refine WL_skip (gdU 84 rfl rfl) rfl ?_
            refine WL_skip (gdU 84 rfl rfl) rfl ?_
            refine WL_skip (gdU 87 rfl rfl) rfl ?_
            refine WL_skip (gdU 87 rfl rfl) rfl ?_
            refine WL_skip (gdU 87 rfl rfl) rfl ?_
            refine WL_skip (gdU 84 rfl rfl) rfl ?_
            refine WL_skip (gdU 84 rfl rfl) rfl ?_
            refine WL_skip (gdU 92 rfl rfl) rfl ?_
            refine WL_skip (gdU 92 rfl rfl) rfl ?_
            refine WL_skip (gdU 92 rfl rfl) rfl ?_
            refine WL_skip (gdU 95 rfl rfl) rfl ?_
            refine WL_skip (gdU 95 rfl rfl) rfl ?_
            refine WL_skip (gdU 95 rfl rfl) rfl ?_
            refine WL_skip (gdU 95 rfl rfl) rfl ?_
            refine WL_skip (gdU 95 rfl rfl) rfl ?_
            refine WL_skip (gdU 95 rfl rfl) rfl ?_
            refine WL_skip (gdU 95 rfl rfl) rfl ?_
            refine WL_skip (gdU 92 rfl rfl) rfl ?_
            refine WL_skip (gdU 84 rfl rfl) rfl ?_
            refine WL_skip (gdN (b := true) 80 rfl rfl rfl) rfl ?_
            refine WL_val gd0 ((o_pickT (v := .bool true) rfl rfl rfl) _) rfl ?_
            refine WL_nil ?_
            refine nrm ?_
            refine WC_cond (t := true) rfl (fun _ => ?_) (fun hx => by rw [(rfl : true = true)] at hx; cases hx)
            refine WC_seq ?_
            refine WC_region ?_
            refine WL_val gd0 ((o_assign (v := .bool false) rfl) _) rfl ?_
            refine WL_nil ?_
            refine nrm ?_
            refine WC_ret ?_
            refine rtB ?_
            refine rtT ?_
            refine rtT ?_
            refine rtB ?_
            refine rtT ?_
            refine rtE ?_
            exact gv1 rfl rfl h
          · rw [if_neg (of_decide_eq_false hb49)] at h
            refine WL_val (gdY (b := (decide (r48 ≠ 0))) 66 rfl rfl hb49) ((o_move (v := .int .i64 i38) (by exact e11_37)) _) rfl ?_
            refine WL_val (gdY (b := (decide (r48 ≠ 0))) 66 rfl rfl hb49) ((o_move (v := .int .i64 (Int.tmod (IntKind.i64.wrap at4) (l_n2 : Int))) (by exact e9_35)) _) rfl ?_
            refine WL_val (gdY (b := (decide (r48 ≠ 0))) 66 rfl rfl hb49) ((o_neq rfl rfl) _) rfl ?_
            refine WL_val (gdY (b := (decide (r48 ≠ 0))) 66 rfl rfl hb49) ((o_move (v := .bool (decide (i38 ≠ (Int.tmod (IntKind.i64.wrap at4) (l_n2 : Int))))) rfl) _) rfl ?_
            refine bsplit (decide (i38 ≠ (Int.tmod (IntKind.i64.wrap at4) (l_n2 : Int)))) (fun hb50 => ?_) (fun hb50 => ?_)
            · rw [if_pos (of_decide_eq_true hb50)] at h
              refine WL_val (gdY (b := (decide (i38 ≠ (Int.tmod (IntKind.i64.wrap at4) (l_n2 : Int))))) 70 rfl rfl hb50) ((o_move (v := .int .i64 r47) rfl) _) rfl ?_
              refine WL_val (gdY (b := (decide (i38 ≠ (Int.tmod (IntKind.i64.wrap at4) (l_n2 : Int))))) 70 rfl rfl hb50) ((o_move (v := .slice l_a1 l_n2 l_c3) (by exact e0_32)) _) rfl ?_
              refine WL_val (gdY (b := (decide (i38 ≠ (Int.tmod (IntKind.i64.wrap at4) (l_n2 : Int))))) 70 rfl rfl hb50) ((o_move (v := .int .i64 i38) (by exact e11_37)) _) rfl ?_
              obtain ⟨l51, u52, h⟩ := h
              refine WL_val (gdY (b := (decide (i38 ≠ (Int.tmod (IntKind.i64.wrap at4) (l_n2 : Int))))) 70 rfl rfl hb50) ((o_indexAddr Try.underlying22 Try.sizeOf43 (by exact (congrArg (fun z => Value.slice z l_n2 l_c3) q27)) rfl l51 u52) _) rfl ?_
              refine WL_val (gdY (b := (decide (i38 ≠ (Int.tmod (IntKind.i64.wrap at4) (l_n2 : Int))))) 70 rfl rfl hb50) ((o_fieldAddr 3 Try.underlying43 rfl Try.sizeOf3 rfl rfl rfl) _) rfl ?_
              obtain ⟨x53, hc54, h⟩ := h
              refine WL_val (gdY (b := (decide (i38 ≠ (Int.tmod (IntKind.i64.wrap at4) (l_n2 : Int))))) 70 rfl rfl hb50) (o_load Try.isAgg3 rfl hc54) rfl ?_
              refine WL_val (gdY (b := (decide (i38 ≠ (Int.tmod (IntKind.i64.wrap at4) (l_n2 : Int))))) 70 rfl rfl hb50) ((o_neq rfl rfl) _) rfl ?_
              refine WL_val (gdY (b := (decide (r48 ≠ 0))) 66 rfl rfl hb49) ((o_pickT (v := .bool (decide (r47 ≠ x53))) rfl hb50 rfl) _) rfl ?_
              refine WL_val gd0 ((o_pickF (v := .bool (decide (r47 ≠ x53))) rfl hb49 rfl) _) rfl ?_
              refine WL_val gd0 ((o_move (v := .bool (decide (r47 ≠ x53))) rfl) _) rfl ?_
              refine bsplit (decide (r47 ≠ x53)) (fun hb55 => ?_) (fun hb55 => ?_)
              · rw [if_pos (of_decide_eq_true hb55)] at h
                refine WL_skip (gdN (b := (decide (r47 ≠ x53))) 80 rfl rfl hb55) rfl ?_
                refine WL_skip (gdN (b := (decide (r47 ≠ x53))) 80 rfl rfl hb55) rfl ?_
                refine WL_skip (gdN (b := (decide (r47 ≠ x53))) 80 rfl rfl hb55) rfl ?_
                refine WL_skip (gdN (b := (decide (r47 ≠ x53))) 80 rfl rfl hb55) rfl ?_
                refine WL_skip (gdU 84 rfl rfl) rfl ?_
                refine WL_skip (gdU 84 rfl rfl) rfl ?_
                refine WL_skip (gdU 84 rfl rfl) rfl ?_
                refine WL_skip (gdU 87 rfl rfl) rfl ?_
                refine WL_skip (gdU 87 rfl rfl) rfl ?_
                refine WL_skip (gdU 87 rfl rfl) rfl ?_
                refine WL_skip (gdU 84 rfl rfl) rfl ?_
                refine WL_skip (gdU 84 rfl rfl) rfl ?_
                refine WL_skip (gdU 92 rfl rfl) rfl ?_
                refine WL_skip (gdU 92 rfl rfl) rfl ?_
                refine WL_skip (gdU 92 rfl rfl) rfl ?_
                refine WL_skip (gdU 95 rfl rfl) rfl ?_
                refine WL_skip (gdU 95 rfl rfl) rfl ?_
                refine WL_skip (gdU 95 rfl rfl) rfl ?_
                refine WL_skip (gdU 95 rfl rfl) rfl ?_
                refine WL_skip (gdU 95 rfl rfl) rfl ?_
                refine WL_skip (gdU 95 rfl rfl) rfl ?_
                refine WL_skip (gdU 95 rfl rfl) rfl ?_
                refine WL_skip (gdU 92 rfl rfl) rfl ?_
                refine WL_skip (gdU 84 rfl rfl) rfl ?_
                refine WL_skip (gdN (b := (decide (r47 ≠ x53))) 80 rfl rfl hb55) rfl ?_
                refine WL_val gd0 ((o_pickT (v := .bool true) rfl hb55 rfl) _) rfl ?_
                refine WL_nil ?_
                refine nrm ?_
                refine WC_cond (t := true) rfl (fun _ => ?_) (fun hx => by rw [(rfl : true = true)] at hx; cases hx)
                refine WC_seq ?_
                refine WC_region ?_
                refine WL_val gd0 ((o_assign (v := .bool false) rfl) _) rfl ?_
                refine WL_nil ?_
                refine nrm ?_
                refine WC_ret ?_
                refine rtB ?_
                refine rtT ?_
                refine rtT ?_
                refine rtB ?_
                refine rtT ?_
                refine rtE ?_
                exact gv1 rfl rfl h
              · rw [if_neg (of_decide_eq_false hb55)] at h
                refine WL_val (gdY (b := (decide (r47 ≠ x53))) 80 rfl rfl hb55) ((o_move (v := .int .i64 i38) (by exact e11_37)) _) rfl ?_
                refine WL_val (gdY (b := (decide (r47 ≠ x53))) 80 rfl rfl hb55) ((o_move (v := .int .i64 (Int.tmod (IntKind.i64.wrap at4) (l_n2 : Int))) (by exact e9_35)) _) rfl ?_
                refine WL_val (gdY (b := (decide (r47 ≠ x53))) 80 rfl rfl hb55) ((o_eql rfl rfl) _) rfl ?_
                refine WL_val (gdY (b := (decide (r47 ≠ x53))) 80 rfl rfl hb55) ((o_move (v := .bool (decide (i38 = (Int.tmod (IntKind.i64.wrap at4) (l_n2 : Int))))) rfl) _) rfl ?_
                refine bsplit (decide (i38 = (Int.tmod (IntKind.i64.wrap at4) (l_n2 : Int)))) (fun hb56 => ?_) (fun hb56 => ?_)
                · rw [if_pos (of_decide_eq_true hb56)] at h
                  refine WL_val (gdY (b := (decide (i38 = (Int.tmod (IntKind.i64.wrap at4) (l_n2 : Int))))) 84 rfl rfl hb56) ((o_move (v := .int .i64 f31) (by exact e10_36)) _) rfl ?_
                  refine WL_val (gdY (b := (decide (i38 = (Int.tmod (IntKind.i64.wrap at4) (l_n2 : Int))))) 84 rfl rfl hb56) ((o_eql rfl rfl) _) rfl ?_
                  refine WL_val (gdY (b := (decide (i38 = (Int.tmod (IntKind.i64.wrap at4) (l_n2 : Int))))) 84 rfl rfl hb56) ((o_move (v := .bool (decide (f31 = 0))) rfl) _) rfl ?_
                  refine bsplit (decide (f31 = 0)) (fun hb57 => ?_) (fun hb57 => ?_)
                  · rw [if_pos (of_decide_eq_true hb57)] at h
                    refine WL_val (gdY (b := (decide (f31 = 0))) 87 rfl rfl hb57) ((o_move (v := .int .i64 r47) rfl) _) rfl ?_
                    refine WL_val (gdY (b := (decide (f31 = 0))) 87 rfl rfl hb57) ((o_move (v := .int .i64 v5) (by exact e2_33)) _) rfl ?_
                    refine WL_val (gdY (b := (decide (f31 = 0))) 87 rfl rfl hb57) ((o_neq rfl rfl) _) rfl ?_
                    refine WL_val (gdY (b := (decide (i38 = (Int.tmod (IntKind.i64.wrap at4) (l_n2 : Int))))) 84 rfl rfl hb56) ((o_pickT (v := .bool (decide (r47 ≠ v5))) rfl hb57 rfl) _) rfl ?_
                    refine WL_val (gdY (b := (decide (i38 = (Int.tmod (IntKind.i64.wrap at4) (l_n2 : Int))))) 84 rfl rfl hb56) ((o_move (v := .bool (decide (r47 ≠ v5))) rfl) _) rfl ?_
                    refine bsplit (decide (r47 ≠ v5)) (fun hb58 => ?_) (fun hb58 => ?_)
                    · rw [if_pos (of_decide_eq_true hb58)] at h
                      refine WL_skip (gdN (b := (decide (r47 ≠ v5))) 92 rfl rfl hb58) rfl ?_
                      refine WL_skip (gdN (b := (decide (r47 ≠ v5))) 92 rfl rfl hb58) rfl ?_
                      refine WL_skip (gdN (b := (decide (r47 ≠ v5))) 92 rfl rfl hb58) rfl ?_
                      refine WL_skip (gdU 95 rfl rfl) rfl ?_
                      refine WL_skip (gdU 95 rfl rfl) rfl ?_
                      refine WL_skip (gdU 95 rfl rfl) rfl ?_
                      refine WL_skip (gdU 95 rfl rfl) rfl ?_
                      refine WL_skip (gdU 95 rfl rfl) rfl ?_
                      refine WL_skip (gdU 95 rfl rfl) rfl ?_
                      refine WL_skip (gdU 95 rfl rfl) rfl ?_
                      refine WL_skip (gdN (b := (decide (r47 ≠ v5))) 92 rfl rfl hb58) rfl ?_
                      refine WL_val (gdY (b := (decide (i38 = (Int.tmod (IntKind.i64.wrap at4) (l_n2 : Int))))) 84 rfl rfl hb56) ((o_pickT (v := .bool true) rfl hb58 rfl) _) rfl ?_
                      refine WL_val (gdY (b := (decide (r47 ≠ x53))) 80 rfl rfl hb55) ((o_pickT (v := .bool true) rfl hb56 rfl) _) rfl ?_
                      refine WL_val gd0 ((o_pickF (v := .bool true) rfl hb55 rfl) _) rfl ?_
                      refine WL_nil ?_
                      refine nrm ?_
                      refine WC_cond (t := true) rfl (fun _ => ?_) (fun hx => by rw [(rfl : true = true)] at hx; cases hx)
                      refine WC_seq ?_
                      refine WC_region ?_
                      refine WL_val gd0 ((o_assign (v := .bool false) rfl) _) rfl ?_
                      refine WL_nil ?_
                      refine nrm ?_
                      refine WC_ret ?_
                      refine rtB ?_
                      refine rtT ?_
                      refine rtT ?_
                      refine rtB ?_
                      refine rtT ?_
                      refine rtE ?_
                      exact gv1 rfl rfl h
                    · rw [if_neg (of_decide_eq_false hb58)] at h
                      refine WL_val (gdY (b := (decide (r47 ≠ v5))) 92 rfl rfl hb58) ((o_move (v := .int .i64 f31) (by exact e10_36)) _) rfl ?_
                      refine WL_val (gdY (b := (decide (r47 ≠ v5))) 92 rfl rfl hb58) ((o_neq rfl rfl) _) rfl ?_
                      refine WL_val (gdY (b := (decide (r47 ≠ v5))) 92 rfl rfl hb58) ((o_move (v := .bool (decide (f31 ≠ 0))) rfl) _) rfl ?_
                      refine bsplit (decide (f31 ≠ 0)) (fun hb59 => ?_) (fun hb59 => ?_)
                      · rw [if_pos (of_decide_eq_true hb59)] at h
                        refine WL_val (gdY (b := (decide (f31 ≠ 0))) 95 rfl rfl hb59) ((o_move (v := .int .i64 r47) rfl) _) rfl ?_
                        refine WL_val (gdY (b := (decide (f31 ≠ 0))) 95 rfl rfl hb59) ((o_move (v := .slice l_a1 l_n2 l_c3) (by exact e0_32)) _) rfl ?_
                        refine WL_val (gdY (b := (decide (f31 ≠ 0))) 95 rfl rfl hb59) ((o_move (v := .int .i64 i38) (by exact e11_37)) _) rfl ?_
                        obtain ⟨l60, u61, h⟩ := h
                        refine WL_val (gdY (b := (decide (f31 ≠ 0))) 95 rfl rfl hb59) ((o_indexAddr Try.underlying22 Try.sizeOf43 (by exact (congrArg (fun z => Value.slice z l_n2 l_c3) q27)) rfl l60 u61) _) rfl ?_
                        refine WL_val (gdY (b := (decide (f31 ≠ 0))) 95 rfl rfl hb59) ((o_fieldAddr 3 Try.underlying43 rfl Try.sizeOf3 rfl rfl rfl) _) rfl ?_
                        obtain ⟨x62, hc63, h⟩ := h
                        refine WL_val (gdY (b := (decide (f31 ≠ 0))) 95 rfl rfl hb59) (o_load Try.isAgg3 rfl hc63) rfl ?_
                        refine WL_val (gdY (b := (decide (f31 ≠ 0))) 95 rfl rfl hb59) ((o_neq rfl rfl) _) rfl ?_
                        refine WL_val (gdY (b := (decide (r47 ≠ v5))) 92 rfl rfl hb58) ((o_pickT (v := .bool (decide (r47 ≠ x62))) rfl hb59 rfl) _) rfl ?_
                        refine WL_val (gdY (b := (decide (i38 = (Int.tmod (IntKind.i64.wrap at4) (l_n2 : Int))))) 84 rfl rfl hb56) ((o_pickF (v := .bool (decide (r47 ≠ x62))) rfl hb58 rfl) _) rfl ?_
                        refine WL_val (gdY (b := (decide (r47 ≠ x53))) 80 rfl rfl hb55) ((o_pickT (v := .bool (decide (r47 ≠ x62))) rfl hb56 rfl) _) rfl ?_
                        refine WL_val gd0 ((o_pickF (v := .bool (decide (r47 ≠ x62))) rfl hb55 rfl) _) rfl ?_
                        refine WL_nil ?_
                        refine nrm ?_
                        refine WC_cond (t := (decide (r47 ≠ x62))) rfl (fun hb64 => ?_) (fun hb64 => ?_)
                        · rw [if_pos (of_decide_eq_true hb64)] at h
                          refine WC_seq ?_
                          refine WC_region ?_
                          refine WL_val gd0 ((o_assign (v := .bool false) rfl) _) rfl ?_
                          refine WL_nil ?_
                          refine nrm ?_
                          refine WC_ret ?_
                          refine rtB ?_
                          refine rtT ?_
                          refine rtT ?_
                          refine rtB ?_
                          refine rtT ?_
                          refine rtE ?_
                          exact gv1 rfl rfl h
                        · rw [if_neg (of_decide_eq_false hb64)] at h
                          refine WC_skip ?_
                          refine nrmB ?_
                          refine nrm ?_
                          refine WC_region ?_
                          refine WL_val gd0 ((o_move (v := .int .i64 i38) (by exact e11_37)) _) rfl ?_
                          refine WL_val gd0 ((o_add rfl rfl) _) rfl ?_
                          refine WL_val gd0 ((o_assign (v := .int .i64 (IntKind.i64.wrap (i38 + 1))) rfl) _) rfl ?_
                          refine WL_nil ?_
                          refine nrm ?_
                          obtain ⟨m40, hm40, h⟩ := h
                          exact ⟨m40, hm40, _, rfl, e0_32, e2_33, e7_34, e9_35, e10_36, h⟩
                      · rw [if_neg (of_decide_eq_false hb59)] at h
                        refine WL_skip (gdN (b := (decide (f31 ≠ 0))) 95 rfl rfl hb59) rfl ?_
                        refine WL_skip (gdN (b := (decide (f31 ≠ 0))) 95 rfl rfl hb59) rfl ?_
                        refine WL_skip (gdN (b := (decide (f31 ≠ 0))) 95 rfl rfl hb59) rfl ?_
                        refine WL_skip (gdN (b := (decide (f31 ≠ 0))) 95 rfl rfl hb59) rfl ?_
                        refine WL_skip (gdN (b := (decide (f31 ≠ 0))) 95 rfl rfl hb59) rfl ?_
                        refine WL_skip (gdN (b := (decide (f31 ≠ 0))) 95 rfl rfl hb59) rfl ?_
                        refine WL_skip (gdN (b := (decide (f31 ≠ 0))) 95 rfl rfl hb59) rfl ?_
                        refine WL_val (gdY (b := (decide (r47 ≠ v5))) 92 rfl rfl hb58) ((o_pickF (v := .bool false) rfl hb59 rfl) _) rfl ?_
                        refine WL_val (gdY (b := (decide (i38 = (Int.tmod (IntKind.i64.wrap at4) (l_n2 : Int))))) 84 rfl rfl hb56) ((o_pickF (v := .bool false) rfl hb58 rfl) _) rfl ?_
                        refine WL_val (gdY (b := (decide (r47 ≠ x53))) 80 rfl rfl hb55) ((o_pickT (v := .bool false) rfl hb56 rfl) _) rfl ?_
                        refine WL_val gd0 ((o_pickF (v := .bool false) rfl hb55 rfl) _) rfl ?_
                        refine WL_nil ?_
                        refine nrm ?_
                        refine WC_cond (t := false) rfl (fun hx => by rw [(rfl : false = false)] at hx; cases hx) (fun _ => ?_)
                        refine WC_skip ?_
                        refine nrmB ?_
                        refine nrm ?_
                        refine WC_region ?_
                        refine WL_val gd0 ((o_move (v := .int .i64 i38) (by exact e11_37)) _) rfl ?_
                        refine WL_val gd0 ((o_add rfl rfl) _) rfl ?_
                        refine WL_val gd0 ((o_assign (v := .int .i64 (IntKind.i64.wrap (i38 + 1))) rfl) _) rfl ?_
                        refine WL_nil ?_
                        refine nrm ?_
                        obtain ⟨m40, hm40, h⟩ := h
                        exact ⟨m40, hm40, _, rfl, e0_32, e2_33, e7_34, e9_35, e10_36, h⟩
                  · rw [if_neg (of_decide_eq_false hb57)] at h
                    refine WL_skip (gdN (b := (decide (f31 = 0))) 87 rfl rfl hb57) rfl ?_
                    refine WL_skip (gdN (b := (decide (f31 = 0))) 87 rfl rfl hb57) rfl ?_
                    refine WL_skip (gdN (b := (decide (f31 = 0))) 87 rfl rfl hb57) rfl ?_
                    refine WL_val (gdY (b := (decide (i38 = (Int.tmod (IntKind.i64.wrap at4) (l_n2 : Int))))) 84 rfl rfl hb56) ((o_pickF (v := .bool false) rfl hb57 rfl) _) rfl ?_
                    refine WL_val (gdY (b := (decide (i38 = (Int.tmod (IntKind.i64.wrap at4) (l_n2 : Int))))) 84 rfl rfl hb56) ((o_move (v := .bool false) rfl) _) rfl ?_
                    refine WL_val (gdY (b := false) 92 rfl rfl rfl) ((o_move (v := .int .i64 f31) (by exact e10_36)) _) rfl ?_
                    refine WL_val (gdY (b := false) 92 rfl rfl rfl) ((o_neq rfl rfl) _) rfl ?_
                    refine WL_val (gdY (b := false) 92 rfl rfl rfl) ((o_move (v := .bool (decide (f31 ≠ 0))) rfl) _) rfl ?_
                    refine bsplit (decide (f31 ≠ 0)) (fun hb65 => ?_) (fun hb65 => ?_)
                    · rw [if_pos (of_decide_eq_true hb65)] at h
                      refine WL_val (gdY (b := (decide (f31 ≠ 0))) 95 rfl rfl hb65) ((o_move (v := .int .i64 r47) rfl) _) rfl ?_
                      refine WL_val (gdY (b := (decide (f31 ≠ 0))) 95 rfl rfl hb65) ((o_move (v := .slice l_a1 l_n2 l_c3) (by exact e0_32)) _) rfl ?_
                      refine WL_val (gdY (b := (decide (f31 ≠ 0))) 95 rfl rfl hb65) ((o_move (v := .int .i64 i38) (by exact e11_37)) _) rfl ?_
                      obtain ⟨l66, u67, h⟩ := h
                      refine WL_val (gdY (b := (decide (f31 ≠ 0))) 95 rfl rfl hb65) ((o_indexAddr Try.underlying22 Try.sizeOf43 (by exact (congrArg (fun z => Value.slice z l_n2 l_c3) q27)) rfl l66 u67) _) rfl ?_
                      refine WL_val (gdY (b := (decide (f31 ≠ 0))) 95 rfl rfl hb65) ((o_fieldAddr 3 Try.underlying43 rfl Try.sizeOf3 rfl rfl rfl) _) rfl ?_
                      obtain ⟨x68, hc69, h⟩ := h
                      refine WL_val (gdY (b := (decide (f31 ≠ 0))) 95 rfl rfl hb65) (o_load Try.isAgg3 rfl hc69) rfl ?_
                      refine WL_val (gdY (b := (decide (f31 ≠ 0))) 95 rfl rfl hb65) ((o_neq rfl rfl) _) rfl ?_
                      refine WL_val (gdY (b := false) 92 rfl rfl rfl) ((o_pickT (v := .bool (decide (r47 ≠ x68))) rfl hb65 rfl) _) rfl ?_
                      refine WL_val (gdY (b := (decide (i38 = (Int.tmod (IntKind.i64.wrap at4) (l_n2 : Int))))) 84 rfl rfl hb56) ((o_pickF (v := .bool (decide (r47 ≠ x68))) rfl rfl rfl) _) rfl ?_
                      refine WL_val (gdY (b := (decide (r47 ≠ x53))) 80 rfl rfl hb55) ((o_pickT (v := .bool (decide (r47 ≠ x68))) rfl hb56 rfl) _) rfl ?_
                      refine WL_val gd0 ((o_pickF (v := .bool (decide (r47 ≠ x68))) rfl hb55 rfl) _) rfl ?_
                      refine WL_nil ?_
                      refine nrm ?_
                      refine WC_cond (t := (decide (r47 ≠ x68))) rfl (fun hb70 => ?_) (fun hb70 => ?_)
                      · rw [if_pos (of_decide_eq_true hb70)] at h
                        refine WC_seq ?_
                        refine WC_region ?_
                        refine WL_val gd0 ((o_assign (v := .bool false) rfl) _) rfl ?_
                        refine WL_nil ?_
                        refine nrm ?_
                        refine WC_ret ?_
                        refine rtB ?_
                        refine rtT ?_
                        refine rtT ?_
                        refine rtB ?_
                        refine rtT ?_
                        refine rtE ?_
                        exact gv1 rfl rfl h
                      · rw [if_neg (of_decide_eq_false hb70)] at h
                        refine WC_skip ?_
                        refine nrmB ?_
                        refine nrm ?_
                        refine WC_region ?_
                        refine WL_val gd0 ((o_move (v := .int .i64 i38) (by exact e11_37)) _) rfl ?_
                        refine WL_val gd0 ((o_add rfl rfl) _) rfl ?_
                        refine WL_val gd0 ((o_assign (v := .int .i64 (IntKind.i64.wrap (i38 + 1))) rfl) _) rfl ?_
                        refine WL_nil ?_
                        refine nrm ?_
                        obtain ⟨m40, hm40, h⟩ := h
                        exact ⟨m40, hm40, _, rfl, e0_32, e2_33, e7_34, e9_35, e10_36, h⟩
                    · rw [if_neg (of_decide_eq_false hb65)] at h
                      refine WL_skip (gdN (b := (decide (f31 ≠ 0))) 95 rfl rfl hb65) rfl ?_
                      refine WL_skip (gdN (b := (decide (f31 ≠ 0))) 95 rfl rfl hb65) rfl ?_
                      refine WL_skip (gdN (b := (decide (f31 ≠ 0))) 95 rfl rfl hb65) rfl ?_
                      refine WL_skip (gdN (b := (decide (f31 ≠ 0))) 95 rfl rfl hb65) rfl ?_
                      refine WL_skip (gdN (b := (decide (f31 ≠ 0))) 95 rfl rfl hb65) rfl ?_
                      refine WL_skip (gdN (b := (decide (f31 ≠ 0))) 95 rfl rfl hb65) rfl ?_
                      refine WL_skip (gdN (b := (decide (f31 ≠ 0))) 95 rfl rfl hb65) rfl ?_
                      refine WL_val (gdY (b := false) 92 rfl rfl rfl) ((o_pickF (v := .bool false) rfl hb65 rfl) _) rfl ?_
                      refine WL_val (gdY (b := (decide (i38 = (Int.tmod (IntKind.i64.wrap at4) (l_n2 : Int))))) 84 rfl rfl hb56) ((o_pickF (v := .bool false) rfl rfl rfl) _) rfl ?_
                      refine WL_val (gdY (b := (decide (r47 ≠ x53))) 80 rfl rfl hb55) ((o_pickT (v := .bool false) rfl hb56 rfl) _) rfl ?_
                      refine WL_val gd0 ((o_pickF (v := .bool false) rfl hb55 rfl) _) rfl ?_
                      refine WL_nil ?_
                      refine nrm ?_
                      refine WC_cond (t := false) rfl (fun hx => by rw [(rfl : false = false)] at hx; cases hx) (fun _ => ?_)
                      refine WC_skip ?_
                      refine nrmB ?_
                      refine nrm ?_
                      refine WC_region ?_
                      refine WL_val gd0 ((o_move (v := .int .i64 i38) (by exact e11_37)) _) rfl ?_
                      refine WL_val gd0 ((o_add rfl rfl) _) rfl ?_
                      refine WL_val gd0 ((o_assign (v := .int .i64 (IntKind.i64.wrap (i38 + 1))) rfl) _) rfl ?_
                      refine WL_nil ?_
                      refine nrm ?_
                      obtain ⟨m40, hm40, h⟩ := h
                      exact ⟨m40, hm40, _, rfl, e0_32, e2_33, e7_34, e9_35, e10_36, h⟩
                · rw [if_neg (of_decide_eq_false hb56)] at h
                  refine WL_skip (gdN (b := (decide (i38 = (Int.tmod (IntKind.i64.wrap at4) (l_n2 : Int))))) 84 rfl rfl hb56) rfl ?_
                  refine WL_skip (gdN (b := (decide (i38 = (Int.tmod (IntKind.i64.wrap at4) (l_n2 : Int))))) 84 rfl rfl hb56) rfl ?_
                  refine WL_skip (gdN (b := (decide (i38 = (Int.tmod (IntKind.i64.wrap at4) (l_n2 : Int))))) 84 rfl rfl hb56) rfl ?_
                  refine WL_skip (gdU 87 rfl rfl) rfl ?_
                  refine WL_skip (gdU 87 rfl rfl) rfl ?_
                  refine WL_skip (gdU 87 rfl rfl) rfl ?_
                  refine WL_skip (gdN (b := (decide (i38 = (Int.tmod (IntKind.i64.wrap at4) (l_n2 : Int))))) 84 rfl rfl hb56) rfl ?_
                  refine WL_skip (gdN (b := (decide (i38 = (Int.tmod (IntKind.i64.wrap at4) (l_n2 : Int))))) 84 rfl rfl hb56) rfl ?_
                  refine WL_skip (gdU 92 rfl rfl) rfl ?_
                  refine WL_skip (gdU 92 rfl rfl) rfl ?_
                  refine WL_skip (gdU 92 rfl rfl) rfl ?_
                  refine WL_skip (gdU 95 rfl rfl) rfl ?_
                  refine WL_skip (gdU 95 rfl rfl) rfl ?_
                  refine WL_skip (gdU 95 rfl rfl) rfl ?_
                  refine WL_skip (gdU 95 rfl rfl) rfl ?_
                  refine WL_skip (gdU 95 rfl rfl) rfl ?_
                  refine WL_skip (gdU 95 rfl rfl) rfl ?_
                  refine WL_skip (gdU 95 rfl rfl) rfl ?_
                  refine WL_skip (gdU 92 rfl rfl) rfl ?_
                  refine WL_skip (gdN (b := (decide (i38 = (Int.tmod (IntKind.i64.wrap at4) (l_n2 : Int))))) 84 rfl rfl hb56) rfl ?_
                  refine WL_val (gdY (b := (decide (r47 ≠ x53))) 80 rfl rfl hb55) ((o_pickF (v := .bool false) rfl hb56 rfl) _) rfl ?_
                  refine WL_val gd0 ((o_pickF (v := .bool false) rfl hb55 rfl) _) rfl ?_
                  refine WL_nil ?_
                  refine nrm ?_
                  refine WC_cond (t := false) rfl (fun hx => by rw [(rfl : false = false)] at hx; cases hx) (fun _ => ?_)
                  refine WC_skip ?_
                  refine nrmB ?_
                  refine nrm ?_
                  refine WC_region ?_
                  refine WL_val gd0 ((o_move (v := .int .i64 i38) (by exact e11_37)) _) rfl ?_
                  refine WL_val gd0 ((o_add rfl rfl) _) rfl ?_
                  refine WL_val gd0 ((o_assign (v := .int .i64 (IntKind.i64.wrap (i38 + 1))) rfl) _) rfl ?_
                  refine WL_nil ?_
                  refine nrm ?_
                  obtain ⟨m40, hm40, h⟩ := h
                  exact ⟨m40, hm40, _, rfl, e0_32, e2_33, e7_34, e9_35, e10_36, h⟩
            · rw [if_neg (of_decide_eq_false hb50)] at h
              refine WL_skip (gdN (b := (decide (i38 ≠ (Int.tmod (IntKind.i64.wrap at4) (l_n2 : Int))))) 70 rfl rfl hb50) rfl ?_
              refine WL_skip (gdN (b := (decide (i38 ≠ (Int.tmod (IntKind.i64.wrap at4) (l_n2 : Int))))) 70 rfl rfl hb50) rfl ?_
              refine WL_skip (gdN (b := (decide (i38 ≠ (Int.tmod (IntKind.i64.wrap at4) (l_n2 : Int))))) 70 rfl rfl hb50) rfl ?_
              refine WL_skip (gdN (b := (decide (i38 ≠ (Int.tmod (IntKind.i64.wrap at4) (l_n2 : Int))))) 70 rfl rfl hb50) rfl ?_
              refine WL_skip (gdN (b := (decide (i38 ≠ (Int.tmod (IntKind.i64.wrap at4) (l_n2 : Int))))) 70 rfl rfl hb50) rfl ?_
              refine WL_skip (gdN (b := (decide (i38 ≠ (Int.tmod (IntKind.i64.wrap at4) (l_n2 : Int))))) 70 rfl rfl hb50) rfl ?_
              refine WL_skip (gdN (b := (decide (i38 ≠ (Int.tmod (IntKind.i64.wrap at4) (l_n2 : Int))))) 70 rfl rfl hb50) rfl ?_
              refine WL_val (gdY (b := (decide (r48 ≠ 0))) 66 rfl rfl hb49) ((o_pickF (v := .bool false) rfl hb50 rfl) _) rfl ?_
              refine WL_val gd0 ((o_pickF (v := .bool false) rfl hb49 rfl) _) rfl ?_
              refine WL_val gd0 ((o_move (v := .bool false) rfl) _) rfl ?_
              refine WL_val (gdY (b := false) 80 rfl rfl rfl) ((o_move (v := .int .i64 i38) (by exact e11_37)) _) rfl ?_
              refine WL_val (gdY (b := false) 80 rfl rfl rfl) ((o_move (v := .int .i64 (Int.tmod (IntKind.i64.wrap at4) (l_n2 : Int))) (by exact e9_35)) _) rfl ?_
              refine WL_val (gdY (b := false) 80 rfl rfl rfl) ((o_eql rfl rfl) _) rfl ?_
              refine WL_val (gdY (b := false) 80 rfl rfl rfl) ((o_move (v := .bool (decide (i38 = (Int.tmod (IntKind.i64.wrap at4) (l_n2 : Int))))) rfl) _) rfl ?_
              refine bsplit (decide (i38 = (Int.tmod (IntKind.i64.wrap at4) (l_n2 : Int)))) (fun hb71 => ?_) (fun hb71 => ?_)
              · rw [if_pos (of_decide_eq_true hb71)] at h
                refine WL_val (gdY (b := (decide (i38 = (Int.tmod (IntKind.i64.wrap at4) (l_n2 : Int))))) 84 rfl rfl hb71) ((o_move (v := .int .i64 f31) (by exact e10_36)) _) rfl ?_
                refine WL_val (gdY (b := (decide (i38 = (Int.tmod (IntKind.i64.wrap at4) (l_n2 : Int))))) 84 rfl rfl hb71) ((o_eql rfl rfl) _) rfl ?_
                refine WL_val (gdY (b := (decide (i38 = (Int.tmod (IntKind.i64.wrap at4) (l_n2 : Int))))) 84 rfl rfl hb71) ((o_move (v := .bool (decide (f31 = 0))) rfl) _) rfl ?_
                refine bsplit (decide (f31 = 0)) (fun hb72 => ?_) (fun hb72 => ?_)
                · rw [if_pos (of_decide_eq_true hb72)] at h
                  refine WL_val (gdY (b := (decide (f31 = 0))) 87 rfl rfl hb72) ((o_move (v := .int .i64 r47) rfl) _) rfl ?_
                  refine WL_val (gdY (b := (decide (f31 = 0))) 87 rfl rfl hb72) ((o_move (v := .int .i64 v5) (by exact e2_33)) _) rfl ?_
                  refine WL_val (gdY (b := (decide (f31 = 0))) 87 rfl rfl hb72) ((o_neq rfl rfl) _) rfl ?_
                  refine WL_val (gdY (b := (decide (i38 = (Int.tmod (IntKind.i64.wrap at4) (l_n2 : Int))))) 84 rfl rfl hb71) ((o_pickT (v := .bool (decide (r47 ≠ v5))) rfl hb72 rfl) _) rfl ?_
                  refine WL_val (gdY (b := (decide (i38 = (Int.tmod (IntKind.i64.wrap at4) (l_n2 : Int))))) 84 rfl rfl hb71) ((o_move (v := .bool (decide (r47 ≠ v5))) rfl) _) rfl ?_
                  refine bsplit (decide (r47 ≠ v5)) (fun hb73 => ?_) (fun hb73 => ?_)
                  · rw [if_pos (of_decide_eq_true hb73)] at h
                    refine WL_skip (gdN (b := (decide (r47 ≠ v5))) 92 rfl rfl hb73) rfl ?_
                    refine WL_skip (gdN (b := (decide (r47 ≠ v5))) 92 rfl rfl hb73) rfl ?_
                    refine WL_skip (gdN (b := (decide (r47 ≠ v5))) 92 rfl rfl hb73) rfl ?_
                    refine WL_skip (gdU 95 rfl rfl) rfl ?_
                    refine WL_skip (gdU 95 rfl rfl) rfl ?_
                    refine WL_skip (gdU 95 rfl rfl) rfl ?_
                    refine WL_skip (gdU 95 rfl rfl) rfl ?_
                    refine WL_skip (gdU 95 rfl rfl) rfl ?_
                    refine WL_skip (gdU 95 rfl rfl) rfl ?_
                    refine WL_skip (gdU 95 rfl rfl) rfl ?_
                    refine WL_skip (gdN (b := (decide (r47 ≠ v5))) 92 rfl rfl hb73) rfl ?_
                    refine WL_val (gdY (b := (decide (i38 = (Int.tmod (IntKind.i64.wrap at4) (l_n2 : Int))))) 84 rfl rfl hb71) ((o_pickT (v := .bool true) rfl hb73 rfl) _) rfl ?_
                    refine WL_val (gdY (b := false) 80 rfl rfl rfl) ((o_pickT (v := .bool true) rfl hb71 rfl) _) rfl ?_
                    refine WL_val gd0 ((o_pickF (v := .bool true) rfl rfl rfl) _) rfl ?_
                    refine WL_nil ?_
                    refine nrm ?_
                    refine WC_cond (t := true) rfl (fun _ => ?_) (fun hx => by rw [(rfl : true = true)] at hx; cases hx)
                    refine WC_seq ?_
                    refine WC_region ?_
                    refine WL_val gd0 ((o_assign (v := .bool false) rfl) _) rfl ?_
                    refine WL_nil ?_
                    refine nrm ?_
                    refine WC_ret ?_
                    refine rtB ?_
                    refine rtT ?_
                    refine rtT ?_
                    refine rtB ?_
                    refine rtT ?_
                    refine rtE ?_
                    exact gv1 rfl rfl h
                  · rw [if_neg (of_decide_eq_false hb73)] at h
                    refine WL_val (gdY (b := (decide (r47 ≠ v5))) 92 rfl rfl hb73) ((o_move (v := .int .i64 f31) (by exact e10_36)) _) rfl ?_
                    refine WL_val (gdY (b := (decide (r47 ≠ v5))) 92 rfl rfl hb73) ((o_neq rfl rfl) _) rfl ?_
                    refine WL_val (gdY (b := (decide (r47 ≠ v5))) 92 rfl rfl hb73) ((o_move (v := .bool (decide (f31 ≠ 0))) rfl) _) rfl ?_
                    refine bsplit (decide (f31 ≠ 0)) (fun hb74 => ?_) (fun hb74 => ?_)
                    · rw [if_pos (of_decide_eq_true hb74)] at h
                      refine WL_val (gdY (b := (decide (f31 ≠ 0))) 95 rfl rfl hb74) ((o_move (v := .int .i64 r47) rfl) _) rfl ?_
                      refine WL_val (gdY (b := (decide (f31 ≠ 0))) 95 rfl rfl hb74) ((o_move (v := .slice l_a1 l_n2 l_c3) (by exact e0_32)) _) rfl ?_
                      refine WL_val (gdY (b := (decide (f31 ≠ 0))) 95 rfl rfl hb74) ((o_move (v := .int .i64 i38) (by exact e11_37)) _) rfl ?_
                      obtain ⟨l75, u76, h⟩ := h
                      refine WL_val (gdY (b := (decide (f31 ≠ 0))) 95 rfl rfl hb74) ((o_indexAddr Try.underlying22 Try.sizeOf43 (by exact (congrArg (fun z => Value.slice z l_n2 l_c3) q27)) rfl l75 u76) _) rfl ?_
                      refine WL_val (gdY (b := (decide (f31 ≠ 0))) 95 rfl rfl hb74) ((o_fieldAddr 3 Try.underlying43 rfl Try.sizeOf3 rfl rfl rfl) _) rfl ?_
                      obtain ⟨x77, hc78, h⟩ := h
                      refine WL_val (gdY (b := (decide (f31 ≠ 0))) 95 rfl rfl hb74) (o_load Try.isAgg3 rfl hc78) rfl ?_
                      refine WL_val (gdY (b := (decide (f31 ≠ 0))) 95 rfl rfl hb74) ((o_neq rfl rfl) _) rfl ?_
                      refine WL_val (gdY (b := (decide (r47 ≠ v5))) 92 rfl rfl hb73) ((o_pickT (v := .bool (decide (r47 ≠ x77))) rfl hb74 rfl) _) rfl ?_
                      refine WL_val (gdY (b := (decide (i38 = (Int.tmod (IntKind.i64.wrap at4) (l_n2 : Int))))) 84 rfl rfl hb71) ((o_pickF (v := .bool (decide (r47 ≠ x77))) rfl hb73 rfl) _) rfl ?_
                      refine WL_val (gdY (b := false) 80 rfl rfl rfl) ((o_pickT (v := .bool (decide (r47 ≠ x77))) rfl hb71 rfl) _) rfl ?_
                      refine WL_val gd0 ((o_pickF (v := .bool (decide (r47 ≠ x77))) rfl rfl rfl) _) rfl ?_
                      refine WL_nil ?_
                      refine nrm ?_
                      refine WC_cond (t := (decide (r47 ≠ x77))) rfl (fun hb79 => ?_) (fun hb79 => ?_)
                      · rw [if_pos (of_decide_eq_true hb79)] at h
                        refine WC_seq ?_
                        refine WC_region ?_
                        refine WL_val gd0 ((o_assign (v := .bool false) rfl) _) rfl ?_
                        refine WL_nil ?_
                        refine nrm ?_
                        refine WC_ret ?_
                        refine rtB ?_
                        refine rtT ?_
                        refine rtT ?_
                        refine rtB ?_
                        refine rtT ?_
                        refine rtE ?_
                        exact gv1 rfl rfl h
                      · rw [if_neg (of_decide_eq_false hb79)] at h
                        refine WC_skip ?_
                        refine nrmB ?_
                        refine nrm ?_
                        refine WC_region ?_
                        refine WL_val gd0 ((o_move (v := .int .i64 i38) (by exact e11_37)) _) rfl ?_
                        refine WL_val gd0 ((o_add rfl rfl) _) rfl ?_
                        refine WL_val gd0 ((o_assign (v := .int .i64 (IntKind.i64.wrap (i38 + 1))) rfl) _) rfl ?_
                        refine WL_nil ?_
                        refine nrm ?_
                        obtain ⟨m40, hm40, h⟩ := h
                        exact ⟨m40, hm40, _, rfl, e0_32, e2_33, e7_34, e9_35, e10_36, h⟩
                    · rw [if_neg (of_decide_eq_false hb74)] at h
                      refine WL_skip (gdN (b := (decide (f31 ≠ 0))) 95 rfl rfl hb74) rfl ?_
                      refine WL_skip (gdN (b := (decide (f31 ≠ 0))) 95 rfl rfl hb74) rfl ?_
                      refine WL_skip (gdN (b := (decide (f31 ≠ 0))) 95 rfl rfl hb74) rfl ?_
                      refine WL_skip (gdN (b := (decide (f31 ≠ 0))) 95 rfl rfl hb74) rfl ?_
                      refine WL_skip (gdN (b := (decide (f31 ≠ 0))) 95 rfl rfl hb74) rfl ?_
                      refine WL_skip (gdN (b := (decide (f31 ≠ 0))) 95 rfl rfl hb74) rfl ?_
                      refine WL_skip (gdN (b := (decide (f31 ≠ 0))) 95 rfl rfl hb74) rfl ?_
                      refine WL_val (gdY (b := (decide (r47 ≠ v5))) 92 rfl rfl hb73) ((o_pickF (v := .bool false) rfl hb74 rfl) _) rfl ?_
                      refine WL_val (gdY (b := (decide (i38 = (Int.tmod (IntKind.i64.wrap at4) (l_n2 : Int))))) 84 rfl rfl hb71) ((o_pickF (v := .bool false) rfl hb73 rfl) _) rfl ?_
                      refine WL_val (gdY (b := false) 80 rfl rfl rfl) ((o_pickT (v := .bool false) rfl hb71 rfl) _) rfl ?_
                      refine WL_val gd0 ((o_pickF (v := .bool false) rfl rfl rfl) _) rfl ?_
                      refine WL_nil ?_
                      refine nrm ?_
                      refine WC_cond (t := false) rfl (fun hx => by rw [(rfl : false = false)] at hx; cases hx) (fun _ => ?_)
                      refine WC_skip ?_
                      refine nrmB ?_
                      refine nrm ?_
                      refine WC_region ?_
                      refine WL_val gd0 ((o_move (v := .int .i64 i38) (by exact e11_37)) _) rfl ?_
                      refine WL_val gd0 ((o_add rfl rfl) _) rfl ?_
                      refine WL_val gd0 ((o_assign (v := .int .i64 (IntKind.i64.wrap (i38 + 1))) rfl) _) rfl ?_
                      refine WL_nil ?_
                      refine nrm ?_
                      obtain ⟨m40, hm40, h⟩ := h
                      exact ⟨m40, hm40, _, rfl, e0_32, e2_33, e7_34, e9_35, e10_36, h⟩
                · rw [if_neg (of_decide_eq_false hb72)] at h
                  refine WL_skip (gdN (b := (decide (f31 = 0))) 87 rfl rfl hb72) rfl ?_
                  refine WL_skip (gdN (b := (decide (f31 = 0))) 87 rfl rfl hb72) rfl ?_
                  refine WL_skip (gdN (b := (decide (f31 = 0))) 87 rfl rfl hb72) rfl ?_
                  refine WL_val (gdY (b := (decide (i38 = (Int.tmod (IntKind.i64.wrap at4) (l_n2 : Int))))) 84 rfl rfl hb71) ((o_pickF (v := .bool false) rfl hb72 rfl) _) rfl ?_
                  refine WL_val (gdY (b := (decide (i38 = (Int.tmod (IntKind.i64.wrap at4) (l_n2 : Int))))) 84 rfl rfl hb71) ((o_move (v := .bool false) rfl) _) rfl ?_
                  refine WL_val (gdY (b := false) 92 rfl rfl rfl) ((o_move (v := .int .i64 f31) (by exact e10_36)) _) rfl ?_
                  refine WL_val (gdY (b := false) 92 rfl rfl rfl) ((o_neq rfl rfl) _) rfl ?_
                  refine WL_val (gdY (b := false) 92 rfl rfl rfl) ((o_move (v := .bool (decide (f31 ≠ 0))) rfl) _) rfl ?_
                  refine bsplit (decide (f31 ≠ 0)) (fun hb80 => ?_) (fun hb80 => ?_)
                  · rw [if_pos (of_decide_eq_true hb80)] at h
                    refine WL_val (gdY (b := (decide (f31 ≠ 0))) 95 rfl rfl hb80) ((o_move (v := .int .i64 r47) rfl) _) rfl ?_
                    refine WL_val (gdY (b := (decide (f31 ≠ 0))) 95 rfl rfl hb80) ((o_move (v := .slice l_a1 l_n2 l_c3) (by exact e0_32)) _) rfl ?_
                    refine WL_val (gdY (b := (decide (f31 ≠ 0))) 95 rfl rfl hb80) ((o_move (v := .int .i64 i38) (by exact e11_37)) _) rfl ?_
                    obtain ⟨l81, u82, h⟩ := h
                    refine WL_val (gdY (b := (decide (f31 ≠ 0))) 95 rfl rfl hb80) ((o_indexAddr Try.underlying22 Try.sizeOf43 (by exact (congrArg (fun z => Value.slice z l_n2 l_c3) q27)) rfl l81 u82) _) rfl ?_
                    refine WL_val (gdY (b := (decide (f31 ≠ 0))) 95 rfl rfl hb80) ((o_fieldAddr 3 Try.underlying43 rfl Try.sizeOf3 rfl rfl rfl) _) rfl ?_
                    obtain ⟨x83, hc84, h⟩ := h
                    refine WL_val (gdY (b := (decide (f31 ≠ 0))) 95 rfl rfl hb80) (o_load Try.isAgg3 rfl hc84) rfl ?_
                    refine WL_val (gdY (b := (decide (f31 ≠ 0))) 95 rfl rfl hb80) ((o_neq rfl rfl) _) rfl ?_
                    refine WL_val (gdY (b := false) 92 rfl rfl rfl) ((o_pickT (v := .bool (decide (r47 ≠ x83))) rfl hb80 rfl) _) rfl ?_
                    refine WL_val (gdY (b := (decide (i38 = (Int.tmod (IntKind.i64.wrap at4) (l_n2 : Int))))) 84 rfl rfl hb71) ((o_pickF (v := .bool (decide (r47 ≠ x83))) rfl rfl rfl) _) rfl ?_
                    refine WL_val (gdY (b := false) 80 rfl rfl rfl) ((o_pickT (v := .bool (decide (r47 ≠ x83))) rfl hb71 rfl) _) rfl ?_
                    refine WL_val gd0 ((o_pickF (v := .bool (decide (r47 ≠ x83))) rfl rfl rfl) _) rfl ?_
                    refine WL_nil ?_
                    refine nrm ?_
                    refine WC_cond (t := (decide (r47 ≠ x83))) rfl (fun hb85 => ?_) (fun hb85 => ?_)
                    · rw [if_pos (of_decide_eq_true hb85)] at h
                      refine WC_seq ?_
                      refine WC_region ?_
                      refine WL_val gd0 ((o_assign (v := .bool false) rfl) _) rfl ?_
                      refine WL_nil ?_
                      refine nrm ?_
                      refine WC_ret ?_
                      refine rtB ?_
                      refine rtT ?_
                      refine rtT ?_
                      refine rtB ?_
                      refine rtT ?_
                      refine rtE ?_
                      exact gv1 rfl rfl h
                    · rw [if_neg (of_decide_eq_false hb85)] at h
                      refine WC_skip ?_
                      refine nrmB ?_
                      refine nrm ?_
                      refine WC_region ?_
                      refine WL_val gd0 ((o_move (v := .int .i64 i38) (by exact e11_37)) _) rfl ?_
                      refine WL_val gd0 ((o_add rfl rfl) _) rfl ?_
                      refine WL_val gd0 ((o_assign (v := .int .i64 (IntKind.i64.wrap (i38 + 1))) rfl) _) rfl ?_
                      refine WL_nil ?_
                      refine nrm ?_
                      obtain ⟨m40, hm40, h⟩ := h
                      exact ⟨m40, hm40, _, rfl, e0_32, e2_33, e7_34, e9_35, e10_36, h⟩
                  · rw [if_neg (of_decide_eq_false hb80)] at h
                    refine WL_skip (gdN (b := (decide (f31 ≠ 0))) 95 rfl rfl hb80) rfl ?_
                    refine WL_skip (gdN (b := (decide (f31 ≠ 0))) 95 rfl rfl hb80) rfl ?_
                    refine WL_skip (gdN (b := (decide (f31 ≠ 0))) 95 rfl rfl hb80) rfl ?_
                    refine WL_skip (gdN (b := (decide (f31 ≠ 0))) 95 rfl rfl hb80) rfl ?_
                    refine WL_skip (gdN (b := (decide (f31 ≠ 0))) 95 rfl rfl hb80) rfl ?_
                    refine WL_skip (gdN (b := (decide (f31 ≠ 0))) 95 rfl rfl hb80) rfl ?_
                    refine WL_skip (gdN (b := (decide (f31 ≠ 0))) 95 rfl rfl hb80) rfl ?_
                    refine WL_val (gdY (b := false) 92 rfl rfl rfl) ((o_pickF (v := .bool false) rfl hb80 rfl) _) rfl ?_
                    refine WL_val (gdY (b := (decide (i38 = (Int.tmod (IntKind.i64.wrap at4) (l_n2 : Int))))) 84 rfl rfl hb71) ((o_pickF (v := .bool false) rfl rfl rfl) _) rfl ?_
                    refine WL_val (gdY (b := false) 80 rfl rfl rfl) ((o_pickT (v := .bool false) rfl hb71 rfl) _) rfl ?_
                    refine WL_val gd0 ((o_pickF (v := .bool false) rfl rfl rfl) _) rfl ?_
                    refine WL_nil ?_
                    refine nrm ?_
                    refine WC_cond (t := false) rfl (fun hx => by rw [(rfl : false = false)] at hx; cases hx) (fun _ => ?_)
                    refine WC_skip ?_
                    refine nrmB ?_
                    refine nrm ?_
                    refine WC_region ?_
                    refine WL_val gd0 ((o_move (v := .int .i64 i38) (by exact e11_37)) _) rfl ?_
                    refine WL_val gd0 ((o_add rfl rfl) _) rfl ?_
                    refine WL_val gd0 ((o_assign (v := .int .i64 (IntKind.i64.wrap (i38 + 1))) rfl) _) rfl ?_
                    refine WL_nil ?_
                    refine nrm ?_
                    obtain ⟨m40, hm40, h⟩ := h
                    exact ⟨m40, hm40, _, rfl, e0_32, e2_33, e7_34, e9_35, e10_36, h⟩
              · rw [if_neg (of_decide_eq_false hb71)] at h
                refine WL_skip (gdN (b := (decide (i38 = (Int.tmod (IntKind.i64.wrap at4) (l_n2 : Int))))) 84 rfl rfl hb71) rfl ?_
                refine WL_skip (gdN (b := (decide (i38 = (Int.tmod (IntKind.i64.wrap at4) (l_n2 : Int))))) 84 rfl rfl hb71) rfl ?_
                refine WL_skip (gdN (b := (decide (i38 = (Int.tmod (IntKind.i64.wrap at4) (l_n2 : Int))))) 84 rfl rfl hb71) rfl ?_
                refine WL_skip (gdU 87 rfl rfl) rfl ?_
                refine WL_skip (gdU 87 rfl rfl) rfl ?_
                refine WL_skip (gdU 87 rfl rfl) rfl ?_
                refine WL_skip (gdN (b := (decide (i38 = (Int.tmod (IntKind.i64.wrap at4) (l_n2 : Int))))) 84 rfl rfl hb71) rfl ?_
                refine WL_skip (gdN (b := (decide (i38 = (Int.tmod (IntKind.i64.wrap at4) (l_n2 : Int))))) 84 rfl rfl hb71) rfl ?_
                refine WL_skip (gdU 92 rfl rfl) rfl ?_
                refine WL_skip (gdU 92 rfl rfl) rfl ?_
                refine WL_skip (gdU 92 rfl rfl) rfl ?_
                refine WL_skip (gdU 95 rfl rfl) rfl ?_
                refine WL_skip (gdU 95 rfl rfl) rfl ?_
                refine WL_skip (gdU 95 rfl rfl) rfl ?_
                refine WL_skip (gdU 95 rfl rfl) rfl ?_
                refine WL_skip (gdU 95 rfl rfl) rfl ?_
                refine WL_skip (gdU 95 rfl rfl) rfl ?_
                refine WL_skip (gdU 95 rfl rfl) rfl ?_
                refine WL_skip (gdU 92 rfl rfl) rfl ?_
                refine WL_skip (gdN (b := (decide (i38 = (Int.tmod (IntKind.i64.wrap at4) (l_n2 : Int))))) 84 rfl rfl hb71) rfl ?_
                refine WL_val (gdY (b := false) 80 rfl rfl rfl) ((o_pickF (v := .bool false) rfl hb71 rfl) _) rfl ?_
                refine WL_val gd0 ((o_pickF (v := .bool false) rfl rfl rfl) _) rfl ?_
                refine WL_nil ?_
                refine nrm ?_
                refine WC_cond (t := false) rfl (fun hx => by rw [(rfl : false = false)] at hx; cases hx) (fun _ => ?_)
                refine WC_skip ?_
                refine nrmB ?_
                refine nrm ?_
                refine WC_region ?_
                refine WL_val gd0 ((o_move (v := .int .i64 i38) (by exact e11_37)) _) rfl ?_
                refine WL_val gd0 ((o_add rfl rfl) _) rfl ?_
                refine WL_val gd0 ((o_assign (v := .int .i64 (IntKind.i64.wrap (i38 + 1))) rfl) _) rfl ?_
                refine WL_nil ?_
                refine nrm ?_
                obtain ⟨m40, hm40, h⟩ := h
                exact ⟨m40, hm40, _, rfl, e0_32, e2_33, e7_34, e9_35, e10_36, h⟩
        · rw [if_neg (of_decide_eq_false hb41)] at h
          refine WC_exit ?_
          refine exT ?_
          refine exT ?_
          refine exB ?_
          refine nrm ?_
          refine WC_seq ?_
          refine WC_region ?_
          refine WL_val gd0 ((o_move (v := .int .i64 f31) (by exact e10_36)) _) rfl ?_
          refine WL_val gd0 ((o_eql rfl rfl) _) rfl ?_
          refine WL_val gd0 ((o_move (v := .bool (decide (f31 = 0))) rfl) _) rfl ?_
          refine bsplit (decide (f31 = 0)) (fun hb86 => ?_) (fun hb86 => ?_)
          · rw [if_pos (of_decide_eq_true hb86)] at h
            refine WL_skip (gdN (b := (decide (f31 = 0))) 109 rfl rfl hb86) rfl ?_
            refine WL_skip (gdN (b := (decide (f31 = 0))) 109 rfl rfl hb86) rfl ?_
            refine WL_val gd0 ((o_pickT (v := .bool true) rfl hb86 rfl) _) rfl ?_
            refine WL_val gd0 ((o_move (v := .bool true) rfl) _) rfl ?_
            refine WL_val (gdY (b := true) 113 rfl rfl rfl) ((o_move (v := .pointer r17) (by exact e7_34)) _) rfl ?_
            refine WL_call (gdY (b := true) 113 rfl rfl rfl) (o_call Try.call17 (argCons rfl argNil) _) rfl (h.mono ?_)
            rintro _ w87 ⟨x_a88, x_n89, x_c90, rfl, h⟩
            refine WL_val (gdY (b := true) 113 rfl rfl rfl) ((o_len Try.underlying26 rfl) _) rfl ?_
            refine WL_val (gdY (b := true) 113 rfl rfl rfl) ((o_move (v := .slice l_a1 l_n2 l_c3) (by exact e0_32)) _) rfl ?_
            refine WL_val (gdY (b := true) 113 rfl rfl rfl) ((o_len Try.underlying22 rfl) _) rfl ?_
            refine WL_val (gdY (b := true) 113 rfl rfl rfl) ((o_eql rfl rfl) _) rfl ?_
            refine WL_val gd0 ((o_pickT (v := .bool (decide ((x_n89 : Int) = (l_n2 : Int)))) rfl rfl rfl) _) rfl ?_
            refine WL_val gd0 ((o_move (v := .bool (decide ((x_n89 : Int) = (l_n2 : Int)))) rfl) _) rfl ?_
            refine bsplit (decide ((x_n89 : Int) = (l_n2 : Int))) (fun hb91 => ?_) (fun hb91 => ?_)
            · rw [if_pos (of_decide_eq_true hb91)] at h
              refine WL_call (gdY (b := (decide ((x_n89 : Int) = (l_n2 : Int)))) 121 rfl rfl hb91) (o_call Try.call9 argNil _) rfl (h.mono ?_)
              rintro _ w92 ⟨x93, rfl, h⟩
              refine WL_val gd0 ((o_pickT (v := .bool x93) rfl hb91 rfl) _) rfl ?_
              refine WL_val gd0 ((o_assign (v := .bool x93) rfl) _) rfl ?_
              refine WL_nil ?_
              refine nrm ?_
              refine WC_ret ?_
              refine rtE ?_
              exact gv1 rfl rfl h
            · rw [if_neg (of_decide_eq_false hb91)] at h
              refine WL_skip (gdN (b := (decide ((x_n89 : Int) = (l_n2 : Int)))) 121 rfl rfl hb91) rfl ?_
              refine WL_val gd0 ((o_pickF (v := .bool false) rfl hb91 rfl) _) rfl ?_
              refine WL_val gd0 ((o_assign (v := .bool false) rfl) _) rfl ?_
              refine WL_nil ?_
              refine nrm ?_
              refine WC_ret ?_
              refine rtE ?_
              exact gv1 rfl rfl h
          · rw [if_neg (of_decide_eq_false hb86)] at h
            refine WL_val (gdY (b := (decide (f31 = 0))) 109 rfl rfl hb86) ((o_move (v := .int .i64 f31) (by exact e10_36)) _) rfl ?_
            refine WL_val (gdY (b := (decide (f31 = 0))) 109 rfl rfl hb86) ((o_eql rfl rfl) _) rfl ?_
            refine WL_val gd0 ((o_pickF (v := .bool (decide (f31 = 1))) rfl hb86 rfl) _) rfl ?_
            refine WL_val gd0 ((o_move (v := .bool (decide (f31 = 1))) rfl) _) rfl ?_
            refine bsplit (decide (f31 = 1)) (fun hb94 => ?_) (fun hb94 => ?_)
            · rw [if_pos (of_decide_eq_true hb94)] at h
              refine WL_val (gdY (b := (decide (f31 = 1))) 113 rfl rfl hb94) ((o_move (v := .pointer r17) (by exact e7_34)) _) rfl ?_
              refine WL_call (gdY (b := (decide (f31 = 1))) 113 rfl rfl hb94) (o_call Try.call17 (argCons rfl argNil) _) rfl (h.mono ?_)
              rintro _ w95 ⟨x_a96, x_n97, x_c98, rfl, h⟩
              refine WL_val (gdY (b := (decide (f31 = 1))) 113 rfl rfl hb94) ((o_len Try.underlying26 rfl) _) rfl ?_
              refine WL_val (gdY (b := (decide (f31 = 1))) 113 rfl rfl hb94) ((o_move (v := .slice l_a1 l_n2 l_c3) (by exact e0_32)) _) rfl ?_
              refine WL_val (gdY (b := (decide (f31 = 1))) 113 rfl rfl hb94) ((o_len Try.underlying22 rfl) _) rfl ?_
              refine WL_val (gdY (b := (decide (f31 = 1))) 113 rfl rfl hb94) ((o_eql rfl rfl) _) rfl ?_
              refine WL_val gd0 ((o_pickT (v := .bool (decide ((x_n97 : Int) = (l_n2 : Int)))) rfl hb94 rfl) _) rfl ?_
              refine WL_val gd0 ((o_move (v := .bool (decide ((x_n97 : Int) = (l_n2 : Int)))) rfl) _) rfl ?_
              refine bsplit (decide ((x_n97 : Int) = (l_n2 : Int))) (fun hb99 => ?_) (fun hb99 => ?_)
              · rw [if_pos (of_decide_eq_true hb99)] at h
                refine WL_call (gdY (b := (decide ((x_n97 : Int) = (l_n2 : Int)))) 121 rfl rfl hb99) (o_call Try.call9 argNil _) rfl (h.mono ?_)
                rintro _ w100 ⟨x101, rfl, h⟩
                refine WL_val gd0 ((o_pickT (v := .bool x101) rfl hb99 rfl) _) rfl ?_
                refine WL_val gd0 ((o_assign (v := .bool x101) rfl) _) rfl ?_
                refine WL_nil ?_
                refine nrm ?_
                refine WC_ret ?_
                refine rtE ?_
                exact gv1 rfl rfl h
              · rw [if_neg (of_decide_eq_false hb99)] at h
                refine WL_skip (gdN (b := (decide ((x_n97 : Int) = (l_n2 : Int)))) 121 rfl rfl hb99) rfl ?_
                refine WL_val gd0 ((o_pickF (v := .bool false) rfl hb99 rfl) _) rfl ?_
                refine WL_val gd0 ((o_assign (v := .bool false) rfl) _) rfl ?_
                refine WL_nil ?_
                refine nrm ?_
                refine WC_ret ?_
                refine rtE ?_
                exact gv1 rfl rfl h
            · rw [if_neg (of_decide_eq_false hb94)] at h
              refine WL_skip (gdN (b := (decide (f31 = 1))) 113 rfl rfl hb94) rfl ?_
              refine WL_skip (gdN (b := (decide (f31 = 1))) 113 rfl rfl hb94) rfl ?_
              refine WL_skip (gdN (b := (decide (f31 = 1))) 113 rfl rfl hb94) rfl ?_
              refine WL_skip (gdN (b := (decide (f31 = 1))) 113 rfl rfl hb94) rfl ?_
              refine WL_skip (gdN (b := (decide (f31 = 1))) 113 rfl rfl hb94) rfl ?_
              refine WL_skip (gdN (b := (decide (f31 = 1))) 113 rfl rfl hb94) rfl ?_
              refine WL_val gd0 ((o_pickF (v := .bool false) rfl hb94 rfl) _) rfl ?_
              refine WL_val gd0 ((o_move (v := .bool false) rfl) _) rfl ?_
              refine WL_skip (gdN (b := false) 121 rfl rfl rfl) rfl ?_
              refine WL_val gd0 ((o_pickF (v := .bool false) rfl rfl rfl) _) rfl ?_
              refine WL_val gd0 ((o_assign (v := .bool false) rfl) _) rfl ?_
              refine WL_nil ?_
              refine nrm ?_
              refine WC_ret ?_
              refine rtE ?_
              exact gv1 rfl rfl h

def F7_j3 (p24 : Addr) (i38 : Int) (p66 : Option Addr) (w69 : World) (k : Value → World → Prop) (nx39 : Option Addr → Int → World → Prop) : Prop :=
  ∃ (x_a70 : Option Addr) (x_n71 x_c72 : Nat), Cells w69.drew p24 0 [.slice x_a70 x_n71 x_c72] ∧ Does Try.prog 17 #[.pointer p66] w69.drew (fun v w74 => ∃ (x_a75 : Option Addr) (x_n76 x_c77 : Nat), v = .slice x_a75 x_n76 x_c77 ∧ Cells w74 p24 0 [.slice x_a70 x_n71 x_c72] ∧ Does Try.prog 23 #[.agg #[.slice x_a70 x_n71 x_c72]] w74 (fun v w79 => ∃ (x_a80 : Option Addr) (x_n81 x_c82 : Nat), v = .slice x_a80 x_n81 x_c82 ∧ Does Try.prog 12 #[.slice x_a75 x_n76 x_c77, .slice x_a80 x_n81 x_c82] w79 (fun v w83 => ∃ (x84 : Bool), v = .bool x84 ∧ if (!x84) = true then
  k (.bool false) w83
else
  nx39 p66 (IntKind.i64.wrap (i38 + 1)) w83)))
def F7_b2 (ops_n5 : Nat) (ops_a4 : Option Addr) (p24 : Addr) (p35 : Option Addr) (i38 : Int) (w39 : World) (k : Value → World → Prop) (nx39 : Option Addr → Int → World → Prop) : Prop :=
  if i38 < (ops_n5 : Int) then
  ∃ (p44 : Addr), ops_a4 = some p44 ∧ (0 : Int) ≤ i38 ∧ i38 < (ops_n5 : Int) ∧ ∃ (x46 x47 x48 : Int) (x_a49 : Option Addr) (x_n50 x_c51 : Nat), Cells w39 (p44.add (i38.toNat * 4)) 0 [.int .i64 x46, .int .i64 x47, .int .i64 x48, .slice x_a49 x_n50 x_c51] ∧ New w39 54 [.int .i64 0, .int .i64 0, .int .i64 0, .slice none 0 0] (fun p53 w54 => PutAll w54 p53 [.int .i64 x46, .int .i64 x47, .int .i64 x48, .slice x_a49 x_n50 x_c51] (fun w55 => ∃ (x_a57 : Option Addr) (x_n58 x_c59 : Nat), w55.cell? (p53.add 3) = some (.slice x_a57 x_n58 x_c59) ∧ if 300 < (x_n58 : Int) then
    Does Try.prog 9 #[] w55 (fun v w62 => ∃ (t63 : Bool), v = .bool t63 ∧ k (.bool t63) w62)
  else
    ∃ (x86 : Int), w55.cell? p53 = some (.int .i64 x86) ∧ if x86 = 1 then
      ∃ (x89 : Int), w55.cell? (p53.add 1) = some (.int .i64 x89) ∧ ∃ (x91 : Int), w55.cell? (p53.add 2) = some (.int .i64 x91) ∧ Does Try.prog 16 #[.pointer p35, .int .i64 x89, .int .i64 x91] w55 (fun v w93 => ∃ (a94 : Int), v = .int .i64 a94 ∧ ∃ (x_a95 : Option Addr) (x_n96 x_c97 : Nat), Cells w93 p24 0 [.slice x_a95 x_n96 x_c97] ∧ ∃ (x99 : Int), w93.cell? (p53.add 1) = some (.int .i64 x99) ∧ ∃ (x101 : Int), w93.cell? (p53.add 2) = some (.int .i64 x101) ∧ Does Try.prog 19 #[.agg #[.slice x_a95 x_n96 x_c97], .int .i64 x99, .int .i64 x101] w93 (fun v w103 => ∃ (r_a104 : Option Addr) (r_n105 r_c106 : Nat) (r107 : Int), v = .tuple #[.agg #[.slice r_a104 r_n105 r_c106], .int .i64 r107] ∧ New w103 50 [.slice none 0 0] (fun p108 w109 => PutAll w109 p108 [.slice r_a104 r_n105 r_c106] (fun w110 => ∃ (x_a112 : Option Addr) (x_n113 x_c114 : Nat), Cells w110 p108 0 [.slice x_a112 x_n113 x_c114] ∧ PutAll w110 p24 [.slice x_a112 x_n113 x_c114] (fun w116 => if a94 ≠ r107 then
        k (.bool false) w116
      else
        F7_j3 p24 i38 p35 w116 k nx39)))))
    else
      if x86 = 2 then
        ∃ (x120 : Int), w55.cell? (p53.add 1) = some (.int .i64 x120) ∧ Does Try.prog 15 #[.pointer p35, .int .i64 x120] w55 (fun v w122 => ∃ (r123 r124 : Int), v = .tuple #[.int .i64 r123, .int .i64 r124] ∧ ∃ (x_a125 : Option Addr) (x_n126 x_c127 : Nat), Cells w122 p24 0 [.slice x_a125 x_n126 x_c127] ∧ ∃ (x129 : Int), w122.cell? (p53.add 1) = some (.int .i64 x129) ∧ Does Try.prog 20 #[.agg #[.slice x_a125 x_n126 x_c127], .int .i64 x129] w122 (fun v w131 => ∃ (r132 r133 : Int), v = .tuple #[.int .i64 r132, .int .i64 r133] ∧ if r123 ≠ r132 then
          k (.bool false) w131
        else
          if r124 ≠ r133 then
            k (.bool false) w131
          else
            F7_j3 p24 i38 p35 w131 k nx39))
      else
        if x86 = 3 then
          ∃ (x_a137 : Option Addr) (x_n138 x_c139 : Nat), w55.cell? (p53.add 3) = some (.slice x_a137 x_n138 x_c139) ∧ Does Try.prog 14 #[.pointer p35, .slice x_a137 x_n138 x_c139] w55 (fun v w141 => ∃ (r_a142 : Option Addr) (r_n143 r_c144 : Nat) (r145 : Int), v = .tuple #[.slice r_a142 r_n143 r_c144, .int .i64 r145] ∧ ∃ (x_a146 : Option Addr) (x_n147 x_c148 : Nat), Cells w141 p24 0 [.slice x_a146 x_n147 x_c148] ∧ ∃ (x_a150 : Option Addr) (x_n151 x_c152 : Nat), w141.cell? (p53.add 3) = some (.slice x_a150 x_n151 x_c152) ∧ Does Try.prog 21 #[.agg #[.slice x_a146 x_n147 x_c148], .slice x_a150 x_n151 x_c152] w141 (fun v w154 => ∃ (r_a155 : Option Addr) (r_n156 r_c157 : Nat) (r158 : Int), v = .tuple #[.slice r_a155 r_n156 r_c157, .int .i64 r158] ∧ ∃ (s159 : ByteArray), (Conv.bytesToString (.slice r_a142 r_n143 r_c144)).run Try.prog w154 = .ok (.string s159) w154 ∧ ∃ (s161 : ByteArray), (Conv.bytesToString (.slice r_a155 r_n156 r_c157)).run Try.prog w154 = .ok (.string s161) w154 ∧ if (!(s159.toList == s161.toList)) = true then
            k (.bool false) w154
          else
            if r145 ≠ r158 then
              k (.bool false) w154
            else
              F7_j3 p24 i38 p35 w154 k nx39))
        else
          if x86 = 4 then
            Does Try.prog 22 #[.pointer p35] w55 (fun v w166 => ∃ (c167 : Option Addr), v = .pointer c167 ∧ ∃ (x168 : Int), w166.cell? (p53.add 1) = some (.int .i64 x168) ∧ ∃ (x170 : Int), w166.cell? (p53.add 2) = some (.int .i64 x170) ∧ Does Try.prog 16 #[.pointer p35, .int .i64 x168, .int .i64 x170] w166 (fun v w172 => ∃ (x173 : Int), v = .int .i64 x173 ∧ F7_j3 p24 i38 c167 w172 k nx39))
          else
            F7_j3 p24 i38 p35 w55 k nx39))
else
  Does Try.prog 9 #[] w39 (fun v w174 => ∃ (t175 : Bool), v = .bool t175 ∧ k (.bool t175) w174)
def F7_j1 (l_a1 : Option Addr) (l_n2 : Nat) (l_c3 : Nat) (ops_n5 : Nat) (ops_a4 : Option Addr) (t11 : Bool) (w12 : World) (k : Value → World → Prop) : Prop :=
  if t11 = true then
  Does Try.prog 9 #[] w12 (fun v w14 => ∃ (t15 : Bool), v = .bool t15 ∧ k (.bool t15) w14)
else
  Does Try.prog 13 #[.slice l_a1 l_n2 l_c3] w12 (fun v w16 => ∃ (r17 : Option Addr) (r18 : Int), v = .tuple #[.pointer r17, .int .i64 r18] ∧ Does Try.prog 18 #[.slice l_a1 l_n2 l_c3] w16 (fun v w19 => ∃ (r_a20 : Option Addr) (r_n21 r_c22 : Nat) (r23 : Int), v = .tuple #[.agg #[.slice r_a20 r_n21 r_c22], .int .i64 r23] ∧ New w19 50 [.slice none 0 0] (fun p24 w25 => PutAll w25 p24 [.slice r_a20 r_n21 r_c22] (fun w26 => if r18 ≠ r23 then
    k (.bool false) w26
  else
    if r18 ≠ 0 then
      if (r17).isNone = true then
        Does Try.prog 9 #[] w26 (fun v w31 => ∃ (x32 : Bool), v = .bool x32 ∧ k (.bool x32) w31)
      else
        k (.bool false) w26
    else
      LoopP (fun (s : Option Addr × Int) w' nx' => F7_b2 ops_n5 ops_a4 p24 (s.1) (s.2) w' k (fun x0 x1 w => nx' (x0, x1) w)) (r17, 0) w26))))
/-- spacecraft spacecraftlaw33.ParamsPlays -/
def F7 (l_a1 : Option Addr) (l_n2 : Nat) (l_c3 : Nat) (ops_a4 : Option Addr) (ops_n5 : Nat) (ops_c6 : Nat) (w7 : World) (k : Value → World → Prop) : Prop :=
  if 300 < (l_n2 : Int) then
  F7_j1 l_a1 l_n2 l_c3 ops_n5 ops_a4 true w7 k
else
  F7_j1 l_a1 l_n2 l_c3 ops_n5 ops_a4 (decide (60 < (ops_n5 : Int))) w7 k
set_option maxRecDepth 100000 in
set_option maxHeartbeats 2000000 in
theorem w7 (l_a1 : Option Addr) (l_n2 : Nat) (l_c3 : Nat) (ops_a4 : Option Addr) (ops_n5 : Nat) (ops_c6 : Nat) (w7 : World) (k : Value → World → Prop) (h : F7 l_a1 l_n2 l_c3 ops_a4 ops_n5 ops_c6 w7 k) : Does Try.prog 7 #[.slice l_a1 l_n2 l_c3, .slice ops_a4 ops_n5 ops_c6] w7 k := by
  refine enter 158 Try.func7 rfl rfl rfl ?_
  intro ρ hρ
  have e0 := hρ 0 _ rfl
  have e1 := hρ 1 _ rfl
  unfold F7 at h
  refine WC_seq ?_
  refine WC_region ?_
  refine WL_val gd0 ((o_assign (v := .bool false) rfl) _) rfl ?_
  refine WL_nil ?_
  refine nrm ?_
  refine WC_seq ?_
  refine WC_cut (fun ρ w' => ∃ (t11 : Bool), ρ 30 = .bool t11 ∧ ρ 0 = .slice l_a1 l_n2 l_c3 ∧ ρ 1 = .slice ops_a4 ops_n5 ops_c6 ∧ F7_j1 l_a1 l_n2 l_c3 ops_n5 ops_a4 t11 w' k) ?_ ?_
  · refine WC_region ?_
    refine WL_val gd0 ((o_move (v := .slice l_a1 l_n2 l_c3) (by exact e0)) _) rfl ?_
    refine WL_val gd0 ((o_len Try.underlying22 rfl) _) rfl ?_
    refine WL_val gd0 ((o_gtr rfl rfl) _) rfl ?_
    refine WL_val gd0 ((o_move (v := .bool (decide (300 < (l_n2 : Int)))) rfl) _) rfl ?_
    refine bsplit (decide (300 < (l_n2 : Int))) (fun hb176 => ?_) (fun hb176 => ?_)
    · rw [if_pos (of_decide_eq_true hb176)] at h
      refine WL_skip (gdN (b := (decide (300 < (l_n2 : Int)))) 26 rfl rfl hb176) rfl ?_
      refine WL_skip (gdN (b := (decide (300 < (l_n2 : Int)))) 26 rfl rfl hb176) rfl ?_
      refine WL_skip (gdN (b := (decide (300 < (l_n2 : Int)))) 26 rfl rfl hb176) rfl ?_
      refine WL_val gd0 ((o_pickT (v := .bool true) rfl hb176 rfl) _) rfl ?_
      refine WL_nil ?_
      refine nrm ?_
      exact ⟨_, rfl, e0, e1, h⟩
    · rw [if_neg (of_decide_eq_false hb176)] at h
      refine WL_val (gdY (b := (decide (300 < (l_n2 : Int)))) 26 rfl rfl hb176) ((o_move (v := .slice ops_a4 ops_n5 ops_c6) (by exact e1)) _) rfl ?_
      refine WL_val (gdY (b := (decide (300 < (l_n2 : Int)))) 26 rfl rfl hb176) ((o_len Try.underlying48 rfl) _) rfl ?_
      refine WL_val (gdY (b := (decide (300 < (l_n2 : Int)))) 26 rfl rfl hb176) ((o_gtr rfl rfl) _) rfl ?_
      refine WL_val gd0 ((o_pickF (v := .bool (decide (60 < (ops_n5 : Int)))) rfl hb176 rfl) _) rfl ?_
      refine WL_nil ?_
      refine nrm ?_
      exact ⟨_, rfl, e0, e1, h⟩
  · rintro ρ w12 ⟨t11, e30_10, e0_8, e1_9, h⟩
    unfold F7_j1 at h
    refine WC_cond (t := t11) (by exact e30_10) (fun hb13 => ?_) (fun hb13 => ?_)
    · rw [if_pos hb13] at h
      refine WC_seq ?_
      refine WC_region ?_
      refine WL_call gd0 (o_call Try.call9 argNil _) rfl (h.mono ?_)
      rintro _ w14 ⟨t15, rfl, h⟩
      refine WL_val gd0 ((o_assign (v := .bool t15) rfl) _) rfl ?_
      refine WL_nil ?_
      refine nrm ?_
      refine WC_ret ?_
      refine rtT ?_
      refine rtE ?_
      exact gv1 rfl rfl h
    · rw [if_neg (neT hb13)] at h
      refine WC_skip ?_
      refine nrm ?_
      refine WC_seq ?_
      refine WC_region ?_
      refine WL_val gd0 ((o_move (v := .slice l_a1 l_n2 l_c3) (by exact e0_8)) _) rfl ?_
      refine WL_call gd0 (o_call Try.call13 (argCons rfl argNil) _) rfl (h.mono ?_)
      rintro _ w16 ⟨r17, r18, rfl, h⟩
      refine WL_val gd0 ((o_move (v := .tuple #[.pointer r17, .int .i64 r18]) rfl) _) rfl ?_
      refine WL_val gd0 ((o_extract (vs := [.pointer r17, .int .i64 r18]) (r := .pointer r17) rfl rfl) _) rfl ?_
      refine WL_val gd0 ((o_extract (vs := [.pointer r17, .int .i64 r18]) (r := .int .i64 r18) rfl rfl) _) rfl ?_
      refine WL_val gd0 ((o_assign (v := .pointer r17) rfl) _) rfl ?_
      refine WL_val gd0 ((o_assign (v := .int .i64 r18) rfl) _) rfl ?_
      refine WL_nil ?_
      refine nrm ?_
      refine WC_seq ?_
      refine WC_region ?_
      refine WL_val gd0 ((o_move (v := .slice l_a1 l_n2 l_c3) (by exact e0_8)) _) rfl ?_
      refine WL_call gd0 (o_call Try.call18 (argCons rfl argNil) _) rfl (h.mono ?_)
      rintro _ w19 ⟨r_a20, r_n21, r_c22, r23, rfl, h⟩
      refine WL_val gd0 ((o_move (v := .tuple #[.agg #[.slice r_a20 r_n21 r_c22], .int .i64 r23]) rfl) _) rfl ?_
      refine WL_val gd0 ((o_extract (vs := [.agg #[.slice r_a20 r_n21 r_c22], .int .i64 r23]) (r := .agg #[.slice r_a20 r_n21 r_c22]) rfl rfl) _) rfl ?_
      refine WL_val gd0 ((o_extract (vs := [.agg #[.slice r_a20 r_n21 r_c22], .int .i64 r23]) (r := .int .i64 r23) rfl rfl) _) rfl ?_
      have h := New.out h
      refine WL_val gd0 (o_alloc (z := .agg #[.slice none 0 0]) (cs := [.slice none 0 0]) Try.zeroValue50 rfl) rfl ?_
      generalize hp24 : fresh w19 = p24 at h ⊢
      generalize hw25 : push w19 50 [.slice none 0 0] = w25 at h ⊢
      try dsimp only at h
      obtain ⟨c27, h⟩ := h
      refine WL_act gd0 (o_storeAgg (vs := [.slice r_a20 r_n21 r_c22]) Try.sizeOf50 rfl rfl rfl c27) ?_
      generalize hw26 : setAll w25 p24 0 [.slice r_a20 r_n21 r_c22] = w26 at h ⊢
      try dsimp only at h
      refine WL_val gd0 ((o_assign (v := .int .i64 r23) rfl) _) rfl ?_
      refine WL_nil ?_
      refine nrm ?_
      refine WC_seq ?_
      refine WC_seq ?_
      refine WC_region ?_
      refine WL_val gd0 ((o_move (v := .int .i64 r18) rfl) _) rfl ?_
      refine WL_val gd0 ((o_move (v := .int .i64 r23) rfl) _) rfl ?_
      refine WL_val gd0 ((o_neq rfl rfl) _) rfl ?_
      refine WL_nil ?_
      refine nrm ?_
      refine WC_cond (t := (decide (r18 ≠ r23))) rfl (fun hb28 => ?_) (fun hb28 => ?_)
      · rw [if_pos (of_decide_eq_true hb28)] at h
        refine WC_seq ?_
        refine WC_region ?_
        refine WL_val gd0 ((o_assign (v := .bool false) rfl) _) rfl ?_
        refine WL_nil ?_
        refine nrm ?_
        refine WC_ret ?_
        refine rtT ?_
        refine rtE ?_
        exact gv1 rfl rfl h
      · rw [if_neg (of_decide_eq_false hb28)] at h
        refine WC_skip ?_
        refine nrm ?_
        refine WC_seq ?_
        refine WC_seq ?_
        refine WC_region ?_
        refine WL_val gd0 ((o_move (v := .int .i64 r18) rfl) _) rfl ?_
        refine WL_val gd0 ((o_neq rfl rfl) _) rfl ?_
        refine WL_nil ?_
        refine nrm ?_
        refine WC_cond (t := (decide (r18 ≠ 0))) rfl (fun hb29 => ?_) (fun hb29 => ?_)
        · rw [if_pos (of_decide_eq_true hb29)] at h
          refine WC_seq ?_
          refine WC_region ?_
          refine WL_val gd0 ((o_move (v := .pointer r17) rfl) _) rfl ?_
          refine WL_val gd0 ((o_eqlPtrNil Try.underlying32 rfl rfl) _) rfl ?_
          refine WL_val gd0 ((o_move (v := .bool ((r17).isNone)) rfl) _) rfl ?_
          refine bsplit ((r17).isNone) (fun hb30 => ?_) (fun hb30 => ?_)
          · rw [if_pos hb30] at h
            refine WL_call (gdY (b := ((r17).isNone)) 49 rfl rfl hb30) (o_call Try.call9 argNil _) rfl (h.mono ?_)
            rintro _ w31 ⟨x32, rfl, h⟩
            refine WL_val gd0 ((o_pickT (v := .bool x32) rfl hb30 rfl) _) rfl ?_
            refine WL_val gd0 ((o_assign (v := .bool x32) rfl) _) rfl ?_
            refine WL_nil ?_
            refine nrm ?_
            refine WC_ret ?_
            refine rtT ?_
            refine rtE ?_
            exact gv1 rfl rfl h
          · rw [if_neg (neT hb30)] at h
            refine WL_skip (gdN (b := ((r17).isNone)) 49 rfl rfl hb30) rfl ?_
            refine WL_val gd0 ((o_pickF (v := .bool false) rfl hb30 rfl) _) rfl ?_
            refine WL_val gd0 ((o_assign (v := .bool false) rfl) _) rfl ?_
            refine WL_nil ?_
            refine nrm ?_
            refine WC_ret ?_
            refine rtT ?_
            refine rtE ?_
            exact gv1 rfl rfl h
        · rw [if_neg (of_decide_eq_false hb29)] at h
          refine WC_skip ?_
          refine nrm ?_
          refine WC_seq ?_
          refine WC_seq ?_
          refine WC_region ?_
          refine WL_val gd0 ((o_assign (v := .int .i64 0) rfl) _) rfl ?_
          refine WL_nil ?_
          refine nrm ?_
          refine WC_block ?_
          obtain ⟨J39, ⟨n39, h0⟩, hr39⟩ := h
          refine WC_loop (fun n ρ w' => ∃ (p35 : Option Addr) (i38 : Int), ρ 5 = .pointer p35 ∧ ρ 9 = .int .i64 i38 ∧ ρ 1 = .slice ops_a4 ops_n5 ops_c6 ∧ ρ 7 = .pointer (some p24) ∧ J39 n (p35, i38) w') ⟨n39, _, _, rfl, rfl, e1_9, rfl, h0⟩ ?_
          rintro n39 ρ w39 ⟨p35, i38, e5_34, e9_37, e1_33, e7_36, h⟩
          have h : F7_b2 ops_n5 ops_a4 p24 p35 i38 w39 k (fun x0 x1 w => ∃ m, m < n39 ∧ J39 m (x0, x1) w) := hr39 n39 (p35, i38) w39 h
          unfold F7_b2 at h
          refine WC_seq ?_
          refine WC_seq ?_
          refine WC_region ?_
          refine WL_val gd0 ((o_move (v := .int .i64 i38) (by exact e9_37)) _) rfl ?_
          refine WL_val gd0 ((o_move (v := .slice ops_a4 ops_n5 ops_c6) (by exact e1_33)) _) rfl ?_
          refine WL_val gd0 ((o_len Try.underlying48 rfl) _) rfl ?_
          refine WL_val gd0 ((o_lss rfl rfl) _) rfl ?_
          refine WL_nil ?_
          refine nrm ?_
          refine WC_cond (t := (decide (i38 < (ops_n5 : Int)))) rfl (fun hb41 => ?_) (fun hb41 => ?_)
          · rw [if_pos (of_decide_eq_true hb41)] at h
            refine WC_skip ?_
            refine nrm ?_
            refine WC_seq ?_
            refine WC_block ?_
            refine WC_seq ?_
            refine WC_region ?_
            refine WL_val gd0 ((o_move (v := .slice ops_a4 ops_n5 ops_c6) (by exact e1_33)) _) rfl ?_
            refine WL_val gd0 ((o_move (v := .int .i64 i38) (by exact e9_37)) _) rfl ?_
            obtain ⟨p44, q45, h⟩ := h
            obtain ⟨l42, u43, h⟩ := h
            refine WL_val gd0 ((o_indexAddr Try.underlying48 Try.sizeOf54 (by exact (congrArg (fun z => Value.slice z ops_n5 ops_c6) q45)) rfl l42 u43) _) rfl ?_
            obtain ⟨x46, x47, x48, x_a49, x_n50, x_c51, hc52, h⟩ := h
            refine WL_val gd0 (o_loadAgg (vs := [.int .i64 x46, .int .i64 x47, .int .i64 x48, .slice x_a49 x_n50 x_c51]) Try.isAgg54 Try.sizeOf54 rfl hc52) rfl ?_
            have h := New.out h
            refine WL_val gd0 (o_alloc (z := .agg #[.int .i64 0, .int .i64 0, .int .i64 0, .slice none 0 0]) (cs := [.int .i64 0, .int .i64 0, .int .i64 0, .slice none 0 0]) Try.zeroValue54 rfl) rfl ?_
            generalize hp53 : fresh w39 = p53 at h ⊢
            generalize hw54 : push w39 54 [.int .i64 0, .int .i64 0, .int .i64 0, .slice none 0 0] = w54 at h ⊢
            try dsimp only at h
            obtain ⟨c56, h⟩ := h
            refine WL_act gd0 (o_storeAgg (vs := [.int .i64 x46, .int .i64 x47, .int .i64 x48, .slice x_a49 x_n50 x_c51]) Try.sizeOf54 rfl rfl rfl c56) ?_
            generalize hw55 : setAll w54 p53 0 [.int .i64 x46, .int .i64 x47, .int .i64 x48, .slice x_a49 x_n50 x_c51] = w55 at h ⊢
            try dsimp only at h
            refine WL_nil ?_
            refine nrm ?_
            refine WC_seq ?_
            refine WC_seq ?_
            refine WC_region ?_
            refine WL_val gd0 ((o_fieldAddr 3 Try.underlying54 rfl Try.sizeOf23 rfl rfl rfl) _) rfl ?_
            obtain ⟨x_a57, x_n58, x_c59, hc60, h⟩ := h
            refine WL_val gd0 (o_load Try.isAgg23 rfl hc60) rfl ?_
            refine WL_val gd0 ((o_len Try.underlying23 rfl) _) rfl ?_
            refine WL_val gd0 ((o_gtr rfl rfl) _) rfl ?_
            refine WL_nil ?_
            refine nrm ?_
            refine WC_cond (t := (decide (300 < (x_n58 : Int)))) rfl (fun hb61 => ?_) (fun hb61 => ?_)
            · rw [if_pos (of_decide_eq_true hb61)] at h
              refine WC_seq ?_
              refine WC_region ?_
              refine WL_call gd0 (o_call Try.call9 argNil _) rfl (h.mono ?_)
              rintro _ w62 ⟨t63, rfl, h⟩
              refine WL_val gd0 ((o_assign (v := .bool t63) rfl) _) rfl ?_
              refine WL_nil ?_
              refine nrm ?_
              refine WC_ret ?_
              refine rtT ?_
              refine rtB ?_
              refine rtT ?_
              refine rtT ?_
              refine rtB ?_
              refine rtT ?_
              refine rtE ?_
              exact gv1 rfl rfl h
            · rw [if_neg (of_decide_eq_false hb61)] at h
              refine WC_skip ?_
              refine nrm ?_
              refine WC_cut (fun ρ w' => ∃ (p66 : Option Addr), ρ 5 = .pointer p66 ∧ ρ 1 = .slice ops_a4 ops_n5 ops_c6 ∧ ρ 7 = .pointer (some p24) ∧ ρ 9 = .int .i64 i38 ∧ F7_j3 p24 i38 p66 w' k (fun x0 x1 w => ∃ m, m < n39 ∧ J39 m (x0, x1) w)) ?_ ?_
              · refine WC_seq ?_
                refine WC_region ?_
                refine WL_val gd0 ((o_fieldAddr0 Try.underlying54 rfl Try.sizeOf3 rfl rfl rfl) _) rfl ?_
                obtain ⟨x86, hc87, h⟩ := h
                refine WL_val gd0 (o_load Try.isAgg3 rfl hc87) rfl ?_
                refine WL_nil ?_
                refine nrm ?_
                refine WC_block ?_
                refine WC_seq ?_
                refine WC_region ?_
                refine WL_val gd0 ((o_eql rfl rfl) _) rfl ?_
                refine WL_val gd0 ((o_assign (v := .bool (decide (x86 = 1))) rfl) _) rfl ?_
                refine WL_nil ?_
                refine nrm ?_
                refine WC_cond (t := (decide (x86 = 1))) rfl (fun hb88 => ?_) (fun hb88 => ?_)
                · rw [if_pos (of_decide_eq_true hb88)] at h
                  refine WC_seq ?_
                  refine WC_region ?_
                  refine WL_val gd0 ((o_move (v := .pointer p35) (by exact e5_34)) _) rfl ?_
                  refine WL_val gd0 ((o_fieldAddr 1 Try.underlying54 rfl Try.sizeOf3 rfl rfl rfl) _) rfl ?_
                  obtain ⟨x89, hc90, h⟩ := h
                  refine WL_val gd0 (o_load Try.isAgg3 rfl hc90) rfl ?_
                  refine WL_val gd0 ((o_fieldAddr 2 Try.underlying54 rfl Try.sizeOf3 rfl rfl rfl) _) rfl ?_
                  obtain ⟨x91, hc92, h⟩ := h
                  refine WL_val gd0 (o_load Try.isAgg3 rfl hc92) rfl ?_
                  refine WL_call gd0 (o_call Try.call16 (argCons rfl (argCons rfl (argCons rfl argNil))) _) rfl (h.mono ?_)
                  rintro _ w93 ⟨a94, rfl, h⟩
                  refine WL_val gd0 ((o_assign (v := .int .i64 a94) rfl) _) rfl ?_
                  refine WL_nil ?_
                  refine nrm ?_
                  refine WC_seq ?_
                  refine WC_region ?_
                  obtain ⟨x_a95, x_n96, x_c97, hc98, h⟩ := h
                  refine WL_val gd0 (o_loadAgg (vs := [.slice x_a95 x_n96 x_c97]) Try.isAgg50 Try.sizeOf50 (by exact e7_36) hc98) rfl ?_
                  refine WL_val gd0 ((o_fieldAddr 1 Try.underlying54 rfl Try.sizeOf3 rfl rfl rfl) _) rfl ?_
                  obtain ⟨x99, hc100, h⟩ := h
                  refine WL_val gd0 (o_load Try.isAgg3 rfl hc100) rfl ?_
                  refine WL_val gd0 ((o_fieldAddr 2 Try.underlying54 rfl Try.sizeOf3 rfl rfl rfl) _) rfl ?_
                  obtain ⟨x101, hc102, h⟩ := h
                  refine WL_val gd0 (o_load Try.isAgg3 rfl hc102) rfl ?_
                  refine WL_call gd0 (o_call Try.call19 (argCons rfl (argCons rfl (argCons rfl argNil))) _) rfl (h.mono ?_)
                  rintro _ w103 ⟨r_a104, r_n105, r_c106, r107, rfl, h⟩
                  refine WL_val gd0 ((o_move (v := .tuple #[.agg #[.slice r_a104 r_n105 r_c106], .int .i64 r107]) rfl) _) rfl ?_
                  refine WL_val gd0 ((o_extract (vs := [.agg #[.slice r_a104 r_n105 r_c106], .int .i64 r107]) (r := .agg #[.slice r_a104 r_n105 r_c106]) rfl rfl) _) rfl ?_
                  refine WL_val gd0 ((o_extract (vs := [.agg #[.slice r_a104 r_n105 r_c106], .int .i64 r107]) (r := .int .i64 r107) rfl rfl) _) rfl ?_
                  have h := New.out h
                  refine WL_val gd0 (o_alloc (z := .agg #[.slice none 0 0]) (cs := [.slice none 0 0]) Try.zeroValue50 rfl) rfl ?_
                  generalize hp108 : fresh w103 = p108 at h ⊢
                  generalize hw109 : push w103 50 [.slice none 0 0] = w109 at h ⊢
                  try dsimp only at h
                  obtain ⟨c111, h⟩ := h
                  refine WL_act gd0 (o_storeAgg (vs := [.slice r_a104 r_n105 r_c106]) Try.sizeOf50 rfl rfl rfl c111) ?_
                  generalize hw110 : setAll w109 p108 0 [.slice r_a104 r_n105 r_c106] = w110 at h ⊢
                  try dsimp only at h
                  refine WL_val gd0 ((o_assign (v := .int .i64 r107) rfl) _) rfl ?_
                  refine WL_nil ?_
                  refine nrm ?_
                  refine WC_seq ?_
                  refine WC_region ?_
                  obtain ⟨x_a112, x_n113, x_c114, hc115, h⟩ := h
                  refine WL_val gd0 (o_loadAgg (vs := [.slice x_a112 x_n113 x_c114]) Try.isAgg50 Try.sizeOf50 rfl hc115) rfl ?_
                  obtain ⟨c117, h⟩ := h
                  refine WL_act gd0 (o_storeAgg (vs := [.slice x_a112 x_n113 x_c114]) Try.sizeOf50 (by exact e7_36) rfl rfl c117) ?_
                  generalize hw116 : setAll w110 p24 0 [.slice x_a112 x_n113 x_c114] = w116 at h ⊢
                  try dsimp only at h
                  refine WL_nil ?_
                  refine nrm ?_
                  refine WC_seq ?_
                  refine WC_region ?_
                  refine WL_val gd0 ((o_move (v := .int .i64 a94) rfl) _) rfl ?_
                  refine WL_val gd0 ((o_move (v := .int .i64 r107) rfl) _) rfl ?_
                  refine WL_val gd0 ((o_neq rfl rfl) _) rfl ?_
                  refine WL_nil ?_
                  refine nrm ?_
                  refine WC_cond (t := (decide (a94 ≠ r107))) rfl (fun hb118 => ?_) (fun hb118 => ?_)
                  · rw [if_pos (of_decide_eq_true hb118)] at h
                    refine WC_seq ?_
                    refine WC_region ?_
                    refine WL_val gd0 ((o_assign (v := .bool false) rfl) _) rfl ?_
                    refine WL_nil ?_
                    refine nrm ?_
                    refine WC_ret ?_
                    refine rtB ?_
                    refine rtT ?_
                    refine rtB ?_
                    refine rtT ?_
                    refine rtT ?_
                    refine rtB ?_
                    refine rtT ?_
                    refine rtE ?_
                    exact gv1 rfl rfl h
                  · rw [if_neg (of_decide_eq_false hb118)] at h
                    refine WC_skip ?_
                    refine nrmB ?_
                    refine nrm ?_
                    exact ⟨_, e5_34, e1_33, e7_36, e9_37, h⟩
                · rw [if_neg (of_decide_eq_false hb88)] at h
                  refine WC_seq ?_
                  refine WC_region ?_
                  refine WL_val gd0 ((o_eql rfl rfl) _) rfl ?_
                  refine WL_val gd0 ((o_assign (v := .bool (decide (x86 = 2))) rfl) _) rfl ?_
                  refine WL_nil ?_
                  refine nrm ?_
                  refine WC_cond (t := (decide (x86 = 2))) rfl (fun hb119 => ?_) (fun hb119 => ?_)
                  · rw [if_pos (of_decide_eq_true hb119)] at h
                    refine WC_seq ?_
                    refine WC_region ?_
                    refine WL_val gd0 ((o_move (v := .pointer p35) (by exact e5_34)) _) rfl ?_
                    refine WL_val gd0 ((o_fieldAddr 1 Try.underlying54 rfl Try.sizeOf3 rfl rfl rfl) _) rfl ?_
                    obtain ⟨x120, hc121, h⟩ := h
                    refine WL_val gd0 (o_load Try.isAgg3 rfl hc121) rfl ?_
                    refine WL_call gd0 (o_call Try.call15 (argCons rfl (argCons rfl argNil)) _) rfl (h.mono ?_)
                    rintro _ w122 ⟨r123, r124, rfl, h⟩
                    refine WL_val gd0 ((o_move (v := .tuple #[.int .i64 r123, .int .i64 r124]) rfl) _) rfl ?_
                    refine WL_val gd0 ((o_extract (vs := [.int .i64 r123, .int .i64 r124]) (r := .int .i64 r123) rfl rfl) _) rfl ?_
                    refine WL_val gd0 ((o_extract (vs := [.int .i64 r123, .int .i64 r124]) (r := .int .i64 r124) rfl rfl) _) rfl ?_
                    refine WL_val gd0 ((o_assign (v := .int .i64 r123) rfl) _) rfl ?_
                    refine WL_val gd0 ((o_assign (v := .int .i64 r124) rfl) _) rfl ?_
                    refine WL_nil ?_
                    refine nrm ?_
                    refine WC_seq ?_
                    refine WC_region ?_
                    obtain ⟨x_a125, x_n126, x_c127, hc128, h⟩ := h
                    refine WL_val gd0 (o_loadAgg (vs := [.slice x_a125 x_n126 x_c127]) Try.isAgg50 Try.sizeOf50 (by exact e7_36) hc128) rfl ?_
                    refine WL_val gd0 ((o_fieldAddr 1 Try.underlying54 rfl Try.sizeOf3 rfl rfl rfl) _) rfl ?_
                    obtain ⟨x129, hc130, h⟩ := h
                    refine WL_val gd0 (o_load Try.isAgg3 rfl hc130) rfl ?_
                    refine WL_call gd0 (o_call Try.call20 (argCons rfl (argCons rfl argNil)) _) rfl (h.mono ?_)
                    rintro _ w131 ⟨r132, r133, rfl, h⟩
                    refine WL_val gd0 ((o_move (v := .tuple #[.int .i64 r132, .int .i64 r133]) rfl) _) rfl ?_
                    refine WL_val gd0 ((o_extract (vs := [.int .i64 r132, .int .i64 r133]) (r := .int .i64 r132) rfl rfl) _) rfl ?_
                    refine WL_val gd0 ((o_extract (vs := [.int .i64 r132, .int .i64 r133]) (r := .int .i64 r133) rfl rfl) _) rfl ?_
                    refine WL_val gd0 ((o_assign (v := .int .i64 r132) rfl) _) rfl ?_
                    refine WL_val gd0 ((o_assign (v := .int .i64 r133) rfl) _) rfl ?_
                    refine WL_nil ?_
                    refine nrm ?_
                    refine WC_seq ?_
                    refine WC_region ?_
                    refine WL_val gd0 ((o_move (v := .int .i64 r123) rfl) _) rfl ?_
                    refine WL_val gd0 ((o_move (v := .int .i64 r132) rfl) _) rfl ?_
                    refine WL_val gd0 ((o_neq rfl rfl) _) rfl ?_
                    refine WL_val gd0 ((o_move (v := .bool (decide (r123 ≠ r132))) rfl) _) rfl ?_
                    refine bsplit (decide (r123 ≠ r132)) (fun hb134 => ?_) (fun hb134 => ?_)
                    · rw [if_pos (of_decide_eq_true hb134)] at h
                      refine WL_skip (gdN (b := (decide (r123 ≠ r132))) 109 rfl rfl hb134) rfl ?_
                      refine WL_skip (gdN (b := (decide (r123 ≠ r132))) 109 rfl rfl hb134) rfl ?_
                      refine WL_skip (gdN (b := (decide (r123 ≠ r132))) 109 rfl rfl hb134) rfl ?_
                      refine WL_val gd0 ((o_pickT (v := .bool true) rfl hb134 rfl) _) rfl ?_
                      refine WL_nil ?_
                      refine nrm ?_
                      refine WC_cond (t := true) rfl (fun _ => ?_) (fun hx => by rw [(rfl : true = true)] at hx; cases hx)
                      refine WC_seq ?_
                      refine WC_region ?_
                      refine WL_val gd0 ((o_assign (v := .bool false) rfl) _) rfl ?_
                      refine WL_nil ?_
                      refine nrm ?_
                      refine WC_ret ?_
                      refine rtB ?_
                      refine rtT ?_
                      refine rtB ?_
                      refine rtT ?_
                      refine rtT ?_
                      refine rtB ?_
                      refine rtT ?_
                      refine rtE ?_
                      exact gv1 rfl rfl h
                    · rw [if_neg (of_decide_eq_false hb134)] at h
                      refine WL_val (gdY (b := (decide (r123 ≠ r132))) 109 rfl rfl hb134) ((o_move (v := .int .i64 r124) rfl) _) rfl ?_
                      refine WL_val (gdY (b := (decide (r123 ≠ r132))) 109 rfl rfl hb134) ((o_move (v := .int .i64 r133) rfl) _) rfl ?_
                      refine WL_val (gdY (b := (decide (r123 ≠ r132))) 109 rfl rfl hb134) ((o_neq rfl rfl) _) rfl ?_
                      refine WL_val gd0 ((o_pickF (v := .bool (decide (r124 ≠ r133))) rfl hb134 rfl) _) rfl ?_
                      refine WL_nil ?_
                      refine nrm ?_
                      refine WC_cond (t := (decide (r124 ≠ r133))) rfl (fun hb135 => ?_) (fun hb135 => ?_)
                      · rw [if_pos (of_decide_eq_true hb135)] at h
                        refine WC_seq ?_
                        refine WC_region ?_
                        refine WL_val gd0 ((o_assign (v := .bool false) rfl) _) rfl ?_
                        refine WL_nil ?_
                        refine nrm ?_
                        refine WC_ret ?_
                        refine rtB ?_
                        refine rtT ?_
                        refine rtB ?_
                        refine rtT ?_
                        refine rtT ?_
                        refine rtB ?_
                        refine rtT ?_
                        refine rtE ?_
                        exact gv1 rfl rfl h
                      · rw [if_neg (of_decide_eq_false hb135)] at h
                        refine WC_skip ?_
                        refine nrmB ?_
                        refine nrm ?_
                        exact ⟨_, e5_34, e1_33, e7_36, e9_37, h⟩
                  · rw [if_neg (of_decide_eq_false hb119)] at h
                    refine WC_seq ?_
                    refine WC_region ?_
                    refine WL_val gd0 ((o_eql rfl rfl) _) rfl ?_
                    refine WL_val gd0 ((o_assign (v := .bool (decide (x86 = 3))) rfl) _) rfl ?_
                    refine WL_nil ?_
                    refine nrm ?_
                    refine WC_cond (t := (decide (x86 = 3))) rfl (fun hb136 => ?_) (fun hb136 => ?_)
                    · rw [if_pos (of_decide_eq_true hb136)] at h
                      refine WC_seq ?_
                      refine WC_region ?_
                      refine WL_val gd0 ((o_move (v := .pointer p35) (by exact e5_34)) _) rfl ?_
                      refine WL_val gd0 ((o_fieldAddr 3 Try.underlying54 rfl Try.sizeOf23 rfl rfl rfl) _) rfl ?_
                      obtain ⟨x_a137, x_n138, x_c139, hc140, h⟩ := h
                      refine WL_val gd0 (o_load Try.isAgg23 rfl hc140) rfl ?_
                      refine WL_call gd0 (o_call Try.call14 (argCons rfl (argCons rfl argNil)) _) rfl (h.mono ?_)
                      rintro _ w141 ⟨r_a142, r_n143, r_c144, r145, rfl, h⟩
                      refine WL_val gd0 ((o_move (v := .tuple #[.slice r_a142 r_n143 r_c144, .int .i64 r145]) rfl) _) rfl ?_
                      refine WL_val gd0 ((o_extract (vs := [.slice r_a142 r_n143 r_c144, .int .i64 r145]) (r := .slice r_a142 r_n143 r_c144) rfl rfl) _) rfl ?_
                      refine WL_val gd0 ((o_extract (vs := [.slice r_a142 r_n143 r_c144, .int .i64 r145]) (r := .int .i64 r145) rfl rfl) _) rfl ?_
                      refine WL_val gd0 ((o_assign (v := .slice r_a142 r_n143 r_c144) rfl) _) rfl ?_
                      refine WL_val gd0 ((o_assign (v := .int .i64 r145) rfl) _) rfl ?_
                      refine WL_nil ?_
                      refine nrm ?_
                      refine WC_seq ?_
                      refine WC_region ?_
                      obtain ⟨x_a146, x_n147, x_c148, hc149, h⟩ := h
                      refine WL_val gd0 (o_loadAgg (vs := [.slice x_a146 x_n147 x_c148]) Try.isAgg50 Try.sizeOf50 (by exact e7_36) hc149) rfl ?_
                      refine WL_val gd0 ((o_fieldAddr 3 Try.underlying54 rfl Try.sizeOf23 rfl rfl rfl) _) rfl ?_
                      obtain ⟨x_a150, x_n151, x_c152, hc153, h⟩ := h
                      refine WL_val gd0 (o_load Try.isAgg23 rfl hc153) rfl ?_
                      refine WL_call gd0 (o_call Try.call21 (argCons rfl (argCons rfl argNil)) _) rfl (h.mono ?_)
                      rintro _ w154 ⟨r_a155, r_n156, r_c157, r158, rfl, h⟩
                      refine WL_val gd0 ((o_move (v := .tuple #[.slice r_a155 r_n156 r_c157, .int .i64 r158]) rfl) _) rfl ?_
                      refine WL_val gd0 ((o_extract (vs := [.slice r_a155 r_n156 r_c157, .int .i64 r158]) (r := .slice r_a155 r_n156 r_c157) rfl rfl) _) rfl ?_
                      refine WL_val gd0 ((o_extract (vs := [.slice r_a155 r_n156 r_c157, .int .i64 r158]) (r := .int .i64 r158) rfl rfl) _) rfl ?_
                      refine WL_val gd0 ((o_assign (v := .slice r_a155 r_n156 r_c157) rfl) _) rfl ?_
                      refine WL_val gd0 ((o_assign (v := .int .i64 r158) rfl) _) rfl ?_
                      refine WL_nil ?_
                      refine nrm ?_
                      refine WC_seq ?_
                      refine WC_region ?_
                      refine WL_val gd0 ((o_move (v := .slice r_a142 r_n143 r_c144) rfl) _) rfl ?_
                      obtain ⟨s159, r160, h⟩ := h
                      refine WL_val gd0 (o_toStr Try.underlying24 Try.underlying5 Try.underlying9 rfl r160) rfl ?_
                      refine WL_val gd0 ((o_move (v := .slice r_a155 r_n156 r_c157) rfl) _) rfl ?_
                      obtain ⟨s161, r162, h⟩ := h
                      refine WL_val gd0 (o_toStr Try.underlying24 Try.underlying5 Try.underlying9 rfl r162) rfl ?_
                      refine WL_val gd0 ((o_neqStr rfl rfl) _) rfl ?_
                      refine WL_val gd0 ((o_move (v := .bool (!(s159.toList == s161.toList))) rfl) _) rfl ?_
                      refine bsplit (!(s159.toList == s161.toList)) (fun hb163 => ?_) (fun hb163 => ?_)
                      · rw [if_pos hb163] at h
                        refine WL_skip (gdN (b := (!(s159.toList == s161.toList))) 135 rfl rfl hb163) rfl ?_
                        refine WL_skip (gdN (b := (!(s159.toList == s161.toList))) 135 rfl rfl hb163) rfl ?_
                        refine WL_skip (gdN (b := (!(s159.toList == s161.toList))) 135 rfl rfl hb163) rfl ?_
                        refine WL_val gd0 ((o_pickT (v := .bool true) rfl hb163 rfl) _) rfl ?_
                        refine WL_nil ?_
                        refine nrm ?_
                        refine WC_cond (t := true) rfl (fun _ => ?_) (fun hx => by rw [(rfl : true = true)] at hx; cases hx)
                        refine WC_seq ?_
                        refine WC_region ?_
                        refine WL_val gd0 ((o_assign (v := .bool false) rfl) _) rfl ?_
                        refine WL_nil ?_
                        refine nrm ?_
                        refine WC_ret ?_
                        refine rtB ?_
                        refine rtT ?_
                        refine rtB ?_
                        refine rtT ?_
                        refine rtT ?_
                        refine rtB ?_
                        refine rtT ?_
                        refine rtE ?_
                        exact gv1 rfl rfl h
                      · rw [if_neg (neT hb163)] at h
                        refine WL_val (gdY (b := (!(s159.toList == s161.toList))) 135 rfl rfl hb163) ((o_move (v := .int .i64 r145) rfl) _) rfl ?_
                        refine WL_val (gdY (b := (!(s159.toList == s161.toList))) 135 rfl rfl hb163) ((o_move (v := .int .i64 r158) rfl) _) rfl ?_
                        refine WL_val (gdY (b := (!(s159.toList == s161.toList))) 135 rfl rfl hb163) ((o_neq rfl rfl) _) rfl ?_
                        refine WL_val gd0 ((o_pickF (v := .bool (decide (r145 ≠ r158))) rfl hb163 rfl) _) rfl ?_
                        refine WL_nil ?_
                        refine nrm ?_
                        refine WC_cond (t := (decide (r145 ≠ r158))) rfl (fun hb164 => ?_) (fun hb164 => ?_)
                        · rw [if_pos (of_decide_eq_true hb164)] at h
                          refine WC_seq ?_
                          refine WC_region ?_
                          refine WL_val gd0 ((o_assign (v := .bool false) rfl) _) rfl ?_
                          refine WL_nil ?_
                          refine nrm ?_
                          refine WC_ret ?_
                          refine rtB ?_
                          refine rtT ?_
                          refine rtB ?_
                          refine rtT ?_
                          refine rtT ?_
                          refine rtB ?_
                          refine rtT ?_
                          refine rtE ?_
                          exact gv1 rfl rfl h
                        · rw [if_neg (of_decide_eq_false hb164)] at h
                          refine WC_skip ?_
                          refine nrmB ?_
                          refine nrm ?_
                          exact ⟨_, e5_34, e1_33, e7_36, e9_37, h⟩
                    · rw [if_neg (of_decide_eq_false hb136)] at h
                      refine WC_seq ?_
                      refine WC_region ?_
                      refine WL_val gd0 ((o_eql rfl rfl) _) rfl ?_
                      refine WL_val gd0 ((o_assign (v := .bool (decide (x86 = 4))) rfl) _) rfl ?_
                      refine WL_nil ?_
                      refine nrm ?_
                      refine WC_cond (t := (decide (x86 = 4))) rfl (fun hb165 => ?_) (fun hb165 => ?_)
                      · rw [if_pos (of_decide_eq_true hb165)] at h
                        refine WC_seq ?_
                        refine WC_region ?_
                        refine WL_val gd0 ((o_move (v := .pointer p35) (by exact e5_34)) _) rfl ?_
                        refine WL_call gd0 (o_call Try.call22 (argCons rfl argNil) _) rfl (h.mono ?_)
                        rintro _ w166 ⟨c167, rfl, h⟩
                        refine WL_val gd0 ((o_assign (v := .pointer c167) rfl) _) rfl ?_
                        refine WL_nil ?_
                        refine nrm ?_
                        refine WC_seq ?_
                        refine WC_region ?_
                        refine WL_val gd0 ((o_move (v := .pointer p35) (by exact e5_34)) _) rfl ?_
                        refine WL_val gd0 ((o_fieldAddr 1 Try.underlying54 rfl Try.sizeOf3 rfl rfl rfl) _) rfl ?_
                        obtain ⟨x168, hc169, h⟩ := h
                        refine WL_val gd0 (o_load Try.isAgg3 rfl hc169) rfl ?_
                        refine WL_val gd0 ((o_fieldAddr 2 Try.underlying54 rfl Try.sizeOf3 rfl rfl rfl) _) rfl ?_
                        obtain ⟨x170, hc171, h⟩ := h
                        refine WL_val gd0 (o_load Try.isAgg3 rfl hc171) rfl ?_
                        refine WL_call gd0 (o_call Try.call16 (argCons rfl (argCons rfl (argCons rfl argNil))) _) rfl (h.mono ?_)
                        rintro _ w172 ⟨x173, rfl, h⟩
                        refine WL_nil ?_
                        refine nrm ?_
                        refine WC_region ?_
                        refine WL_val gd0 ((o_move (v := .pointer c167) rfl) _) rfl ?_
                        refine WL_val gd0 ((o_assign (v := .pointer c167) rfl) _) rfl ?_
                        refine WL_nil ?_
                        refine nrmB ?_
                        refine nrm ?_
                        exact ⟨_, rfl, e1_33, e7_36, e9_37, h⟩
                      · rw [if_neg (of_decide_eq_false hb165)] at h
                        refine WC_skip ?_
                        refine nrmB ?_
                        refine nrm ?_
                        exact ⟨_, e5_34, e1_33, e7_36, e9_37, h⟩
              · rintro ρ w69 ⟨p66, e5_65, e1_64, e7_67, e9_68, h⟩
                unfold F7_j3 at h
                refine WC_seq ?_
                refine WC_draws [1, 3, 4] (.look 0 (.look 2 (.act 1 (.act 3 (.act 4 (.look 5 .nil)))))) Try.mixed (by kernel_rfl) ?_
                refine WQ_val rfl gd0 (o_move (v := .pointer p66) (by exact e5_65)) rfl ?_
                obtain ⟨x_a70, x_n71, x_c72, hc73, h⟩ := h
                refine WQ_look (fun w => Cells w p24 0 [.slice x_a70 x_n71 x_c72]) rfl gd0 (fun w hc => (o_loadAgg (vs := [.slice x_a70 x_n71 x_c72]) Try.isAgg50 Try.sizeOf50 (by exact e7_67) hc)) hc73 rfl ?_
                refine WQ_call rfl gd0 (o_call Try.call17 (argCons rfl argNil) _) rfl (h.mono ?_)
                rintro _ w74 ⟨x_a75, x_n76, x_c77, rfl, hh78, h⟩
                refine ⟨⟨trivial, fun _ => hh78⟩, ?_⟩
                refine WQ_call rfl gd0 (o_call Try.call23 (argCons rfl argNil) _) rfl (h.mono ?_)
                rintro _ w79 ⟨x_a80, x_n81, x_c82, rfl, h⟩
                refine ⟨⟨trivial, depT (by kernel_rfl)⟩, ?_⟩
                refine WQ_call rfl gd0 (o_call Try.call12 (argCons rfl (argCons rfl argNil)) _) rfl (h.mono ?_)
                rintro _ w83 ⟨x84, rfl, h⟩
                refine ⟨⟨trivial, depT (by kernel_rfl)⟩, ?_⟩
                refine WQ_val rfl gd0 (o_not rfl) rfl ?_
                refine WQ_nil ?_
                refine nrm ?_
                refine WC_cond (t := (!x84)) rfl (fun hb85 => ?_) (fun hb85 => ?_)
                · rw [if_pos hb85] at h
                  refine WC_seq ?_
                  refine WC_region ?_
                  refine WL_val gd0 ((o_assign (v := .bool false) rfl) _) rfl ?_
                  refine WL_nil ?_
                  refine nrm ?_
                  refine WC_ret ?_
                  refine rtB ?_
                  refine rtT ?_
                  refine rtT ?_
                  refine rtB ?_
                  refine rtT ?_
                  refine rtE ?_
                  exact gv1 rfl rfl h
                · rw [if_neg (neT hb85)] at h
                  refine WC_skip ?_
                  refine nrmB ?_
                  refine nrm ?_
                  refine WC_region ?_
                  refine WL_val gd0 ((o_move (v := .int .i64 i38) (by exact e9_68)) _) rfl ?_
                  refine WL_val gd0 ((o_add rfl rfl) _) rfl ?_
                  refine WL_val gd0 ((o_assign (v := .int .i64 (IntKind.i64.wrap (i38 + 1))) rfl) _) rfl ?_
                  refine WL_nil ?_
                  refine nrm ?_
                  obtain ⟨m40, hm40, h⟩ := h
                  exact ⟨m40, hm40, _, _, e5_65, rfl, e1_64, e7_67, h⟩
          · rw [if_neg (of_decide_eq_false hb41)] at h
            refine WC_exit ?_
            refine exT ?_
            refine exT ?_
            refine exB ?_
            refine nrm ?_
            refine WC_seq ?_
            refine WC_region ?_
            refine WL_call gd0 (o_call Try.call9 argNil _) rfl (h.mono ?_)
            rintro _ w174 ⟨t175, rfl, h⟩
            refine WL_val gd0 ((o_assign (v := .bool t175) rfl) _) rfl ?_
            refine WL_nil ?_
            refine nrm ?_
            refine WC_ret ?_
            refine rtE ?_
            exact gv1 rfl rfl h

/-- spacecraft spacecraftlaw33.ParamsNil -/
def F8 (id1 : Int) (v2 : Int) (w3 : World) (k : Value → World → Prop) : Prop :=
  New w3 64 [.bool false, .slice none 0 0, .slice none 0 0] (fun p4 w5 => Does Try.prog 15 #[.pointer none, .int .i64 id1] w5 (fun v w6 => ∃ (r7 r8 : Int), v = .tuple #[.int .i64 r7, .int .i64 r8] ∧ New w6 3 [.int .i64 id1] (fun p9 w10 => Does Try.prog 14 #[.pointer (some p4), .slice (some p9) 1 1] w10 (fun v w11 => ∃ (r_a12 : Option Addr) (r_n13 r_c14 : Nat) (r15 : Int), v = .tuple #[.slice r_a12 r_n13 r_c14, .int .i64 r15] ∧ if r8 = 2 then
  if r15 = 2 then
    Does Try.prog 16 #[.pointer none, .int .i64 id1, .int .i64 v2] w11 (fun v w18 => ∃ (x19 : Int), v = .int .i64 x19 ∧ if x19 = 2 then
      Does Try.prog 16 #[.pointer (some p4), .int .i64 id1, .int .i64 v2] w18 (fun v w21 => ∃ (x22 : Int), v = .int .i64 x22 ∧ if x22 = 2 then
        Does Try.prog 17 #[.pointer none] w21 (fun v w24 => ∃ (x_a25 : Option Addr) (x_n26 x_c27 : Nat), v = .slice x_a25 x_n26 x_c27 ∧ if (x_n26 : Int) = 0 then
          Does Try.prog 17 #[.pointer (some p4)] w24 (fun v w29 => ∃ (x_a30 : Option Addr) (x_n31 x_c32 : Nat), v = .slice x_a30 x_n31 x_c32 ∧ if (x_n31 : Int) = 0 then
            Does Try.prog 22 #[.pointer none] w29 (fun v w34 => ∃ (x35 : Option Addr), v = .pointer x35 ∧ if (x35).isNone = true then
              Does Try.prog 22 #[.pointer (some p4)] w34 (fun v w37 => ∃ (x38 : Option Addr), v = .pointer x38 ∧ if (x38).isNone = true then
                Does Try.prog 9 #[] w37 (fun v w40 => ∃ (x41 : Bool), v = .bool x41 ∧ k (.bool x41) w40)
              else
                k (.bool false) w37)
            else
              k (.bool false) w34)
          else
            k (.bool false) w29)
        else
          k (.bool false) w24)
      else
        k (.bool false) w21)
    else
      k (.bool false) w18)
  else
    k (.bool false) w11
else
  k (.bool false) w11))))
set_option maxRecDepth 100000 in
set_option maxHeartbeats 2000000 in
theorem w8 (id1 : Int) (v2 : Int) (w3 : World) (k : Value → World → Prop) (h : F8 id1 v2 w3 k) : Does Try.prog 8 #[.int .i64 id1, .int .i64 v2] w3 k := by
  refine enter 71 Try.func8 rfl rfl rfl ?_
  intro ρ hρ
  have e0 := hρ 0 _ rfl
  have e1 := hρ 1 _ rfl
  unfold F8 at h
  refine WC_seq ?_
  refine WC_region ?_
  refine WL_val gd0 ((o_assign (v := .bool false) rfl) _) rfl ?_
  refine WL_nil ?_
  refine nrm ?_
  refine WC_seq ?_
  refine WC_region ?_
  refine WL_val gd0 ((o_assign (v := .pointer none) rfl) _) rfl ?_
  refine WL_nil ?_
  refine nrm ?_
  refine WC_seq ?_
  refine WC_region ?_
  refine WL_val gd0 ((o_build (ps := []) (v := .agg #[.bool false, .slice none 0 0, .slice none 0 0]) partNil (fun w => by kernel_rfl)) _) rfl ?_
  have h := New.out h
  refine WL_val gd0 (o_box (v := .agg #[.bool false, .slice none 0 0, .slice none 0 0]) (cs := [.bool false, .slice none 0 0, .slice none 0 0]) rfl rfl) rfl ?_
  generalize hp4 : fresh w3 = p4 at h ⊢
  generalize hw5 : push w3 64 [.bool false, .slice none 0 0, .slice none 0 0] = w5 at h ⊢
  try dsimp only at h
  refine WL_val gd0 ((o_assign (v := .pointer (some p4)) rfl) _) rfl ?_
  refine WL_nil ?_
  refine nrm ?_
  refine WC_seq ?_
  refine WC_region ?_
  refine WL_val gd0 ((o_move (v := .pointer none) rfl) _) rfl ?_
  refine WL_val gd0 ((o_move (v := .int .i64 id1) (by exact e0)) _) rfl ?_
  refine WL_call gd0 (o_call Try.call15 (argCons rfl (argCons rfl argNil)) _) rfl (h.mono ?_)
  rintro _ w6 ⟨r7, r8, rfl, h⟩
  refine WL_val gd0 ((o_move (v := .tuple #[.int .i64 r7, .int .i64 r8]) rfl) _) rfl ?_
  refine WL_val gd0 ((o_extract (vs := [.int .i64 r7, .int .i64 r8]) (r := .int .i64 r7) rfl rfl) _) rfl ?_
  refine WL_val gd0 ((o_extract (vs := [.int .i64 r7, .int .i64 r8]) (r := .int .i64 r8) rfl rfl) _) rfl ?_
  refine WL_val gd0 ((o_assign (v := .int .i64 r7) rfl) _) rfl ?_
  refine WL_val gd0 ((o_assign (v := .int .i64 r8) rfl) _) rfl ?_
  refine WL_nil ?_
  refine nrm ?_
  refine WC_seq ?_
  refine WC_region ?_
  refine WL_val gd0 ((o_move (v := .pointer (some p4)) rfl) _) rfl ?_
  refine WL_val gd0 ((o_move (v := .int .i64 id1) (by exact e0)) _) rfl ?_
  have h := New.out h
  refine WL_val gd0 (o_buildSlice (e := 3) (ps := [(0, .int .i64 id1)]) (cs := [.int .i64 id1]) (partCons rfl partNil) (fun w => by kernel_rfl)) rfl ?_
  generalize hp9 : fresh w6 = p9 at h ⊢
  generalize hw10 : push w6 3 [.int .i64 id1] = w10 at h ⊢
  try dsimp only at h
  refine WL_call gd0 (o_call Try.call14 (argCons rfl (argCons rfl argNil)) _) rfl (h.mono ?_)
  rintro _ w11 ⟨r_a12, r_n13, r_c14, r15, rfl, h⟩
  refine WL_val gd0 ((o_move (v := .tuple #[.slice r_a12 r_n13 r_c14, .int .i64 r15]) rfl) _) rfl ?_
  refine WL_val gd0 ((o_extract (vs := [.slice r_a12 r_n13 r_c14, .int .i64 r15]) (r := .slice r_a12 r_n13 r_c14) rfl rfl) _) rfl ?_
  refine WL_val gd0 ((o_extract (vs := [.slice r_a12 r_n13 r_c14, .int .i64 r15]) (r := .int .i64 r15) rfl rfl) _) rfl ?_
  refine WL_val gd0 ((o_assign (v := .slice r_a12 r_n13 r_c14) rfl) _) rfl ?_
  refine WL_val gd0 ((o_assign (v := .int .i64 r15) rfl) _) rfl ?_
  refine WL_nil ?_
  refine nrm ?_
  refine WC_seq ?_
  refine WC_region ?_
  refine WL_val gd0 ((o_move (v := .int .i64 r8) rfl) _) rfl ?_
  refine WL_val gd0 ((o_eql rfl rfl) _) rfl ?_
  refine WL_val gd0 ((o_move (v := .bool (decide (r8 = 2))) rfl) _) rfl ?_
  refine bsplit (decide (r8 = 2)) (fun hb16 => ?_) (fun hb16 => ?_)
  · rw [if_pos (of_decide_eq_true hb16)] at h
    refine WL_val (gdY (b := (decide (r8 = 2))) 28 rfl rfl hb16) ((o_move (v := .int .i64 r15) rfl) _) rfl ?_
    refine WL_val (gdY (b := (decide (r8 = 2))) 28 rfl rfl hb16) ((o_eql rfl rfl) _) rfl ?_
    refine WL_val gd0 ((o_pickT (v := .bool (decide (r15 = 2))) rfl hb16 rfl) _) rfl ?_
    refine WL_val gd0 ((o_move (v := .bool (decide (r15 = 2))) rfl) _) rfl ?_
    refine bsplit (decide (r15 = 2)) (fun hb17 => ?_) (fun hb17 => ?_)
    · rw [if_pos (of_decide_eq_true hb17)] at h
      refine WL_val (gdY (b := (decide (r15 = 2))) 32 rfl rfl hb17) ((o_move (v := .pointer none) rfl) _) rfl ?_
      refine WL_val (gdY (b := (decide (r15 = 2))) 32 rfl rfl hb17) ((o_move (v := .int .i64 id1) (by exact e0)) _) rfl ?_
      refine WL_val (gdY (b := (decide (r15 = 2))) 32 rfl rfl hb17) ((o_move (v := .int .i64 v2) (by exact e1)) _) rfl ?_
      refine WL_call (gdY (b := (decide (r15 = 2))) 32 rfl rfl hb17) (o_call Try.call16 (argCons rfl (argCons rfl (argCons rfl argNil))) _) rfl (h.mono ?_)
      rintro _ w18 ⟨x19, rfl, h⟩
      refine WL_val (gdY (b := (decide (r15 = 2))) 32 rfl rfl hb17) ((o_eql rfl rfl) _) rfl ?_
      refine WL_val gd0 ((o_pickT (v := .bool (decide (x19 = 2))) rfl hb17 rfl) _) rfl ?_
      refine WL_val gd0 ((o_move (v := .bool (decide (x19 = 2))) rfl) _) rfl ?_
      refine bsplit (decide (x19 = 2)) (fun hb20 => ?_) (fun hb20 => ?_)
      · rw [if_pos (of_decide_eq_true hb20)] at h
        refine WL_val (gdY (b := (decide (x19 = 2))) 39 rfl rfl hb20) ((o_move (v := .pointer (some p4)) rfl) _) rfl ?_
        refine WL_val (gdY (b := (decide (x19 = 2))) 39 rfl rfl hb20) ((o_move (v := .int .i64 id1) (by exact e0)) _) rfl ?_
        refine WL_val (gdY (b := (decide (x19 = 2))) 39 rfl rfl hb20) ((o_move (v := .int .i64 v2) (by exact e1)) _) rfl ?_
        refine WL_call (gdY (b := (decide (x19 = 2))) 39 rfl rfl hb20) (o_call Try.call16 (argCons rfl (argCons rfl (argCons rfl argNil))) _) rfl (h.mono ?_)
        rintro _ w21 ⟨x22, rfl, h⟩
        refine WL_val (gdY (b := (decide (x19 = 2))) 39 rfl rfl hb20) ((o_eql rfl rfl) _) rfl ?_
        refine WL_val gd0 ((o_pickT (v := .bool (decide (x22 = 2))) rfl hb20 rfl) _) rfl ?_
        refine WL_val gd0 ((o_move (v := .bool (decide (x22 = 2))) rfl) _) rfl ?_
        refine bsplit (decide (x22 = 2)) (fun hb23 => ?_) (fun hb23 => ?_)
        · rw [if_pos (of_decide_eq_true hb23)] at h
          refine WL_val (gdY (b := (decide (x22 = 2))) 46 rfl rfl hb23) ((o_move (v := .pointer none) rfl) _) rfl ?_
          refine WL_call (gdY (b := (decide (x22 = 2))) 46 rfl rfl hb23) (o_call Try.call17 (argCons rfl argNil) _) rfl (h.mono ?_)
          rintro _ w24 ⟨x_a25, x_n26, x_c27, rfl, h⟩
          refine WL_val (gdY (b := (decide (x22 = 2))) 46 rfl rfl hb23) ((o_len Try.underlying26 rfl) _) rfl ?_
          refine WL_val (gdY (b := (decide (x22 = 2))) 46 rfl rfl hb23) ((o_eql rfl rfl) _) rfl ?_
          refine WL_val gd0 ((o_pickT (v := .bool (decide ((x_n26 : Int) = 0))) rfl hb23 rfl) _) rfl ?_
          refine WL_val gd0 ((o_move (v := .bool (decide ((x_n26 : Int) = 0))) rfl) _) rfl ?_
          refine bsplit (decide ((x_n26 : Int) = 0)) (fun hb28 => ?_) (fun hb28 => ?_)
          · rw [if_pos (of_decide_eq_true hb28)] at h
            refine WL_val (gdY (b := (decide ((x_n26 : Int) = 0))) 52 rfl rfl hb28) ((o_move (v := .pointer (some p4)) rfl) _) rfl ?_
            refine WL_call (gdY (b := (decide ((x_n26 : Int) = 0))) 52 rfl rfl hb28) (o_call Try.call17 (argCons rfl argNil) _) rfl (h.mono ?_)
            rintro _ w29 ⟨x_a30, x_n31, x_c32, rfl, h⟩
            refine WL_val (gdY (b := (decide ((x_n26 : Int) = 0))) 52 rfl rfl hb28) ((o_len Try.underlying26 rfl) _) rfl ?_
            refine WL_val (gdY (b := (decide ((x_n26 : Int) = 0))) 52 rfl rfl hb28) ((o_eql rfl rfl) _) rfl ?_
            refine WL_val gd0 ((o_pickT (v := .bool (decide ((x_n31 : Int) = 0))) rfl hb28 rfl) _) rfl ?_
            refine WL_val gd0 ((o_move (v := .bool (decide ((x_n31 : Int) = 0))) rfl) _) rfl ?_
            refine bsplit (decide ((x_n31 : Int) = 0)) (fun hb33 => ?_) (fun hb33 => ?_)
            · rw [if_pos (of_decide_eq_true hb33)] at h
              refine WL_val (gdY (b := (decide ((x_n31 : Int) = 0))) 58 rfl rfl hb33) ((o_move (v := .pointer none) rfl) _) rfl ?_
              refine WL_call (gdY (b := (decide ((x_n31 : Int) = 0))) 58 rfl rfl hb33) (o_call Try.call22 (argCons rfl argNil) _) rfl (h.mono ?_)
              rintro _ w34 ⟨x35, rfl, h⟩
              refine WL_val (gdY (b := (decide ((x_n31 : Int) = 0))) 58 rfl rfl hb33) ((o_eqlPtrNil Try.underlying32 rfl rfl) _) rfl ?_
              refine WL_val gd0 ((o_pickT (v := .bool ((x35).isNone)) rfl hb33 rfl) _) rfl ?_
              refine WL_val gd0 ((o_move (v := .bool ((x35).isNone)) rfl) _) rfl ?_
              refine bsplit ((x35).isNone) (fun hb36 => ?_) (fun hb36 => ?_)
              · rw [if_pos hb36] at h
                refine WL_val (gdY (b := ((x35).isNone)) 63 rfl rfl hb36) ((o_move (v := .pointer (some p4)) rfl) _) rfl ?_
                refine WL_call (gdY (b := ((x35).isNone)) 63 rfl rfl hb36) (o_call Try.call22 (argCons rfl argNil) _) rfl (h.mono ?_)
                rintro _ w37 ⟨x38, rfl, h⟩
                refine WL_val (gdY (b := ((x35).isNone)) 63 rfl rfl hb36) ((o_eqlPtrNil Try.underlying32 rfl rfl) _) rfl ?_
                refine WL_val gd0 ((o_pickT (v := .bool ((x38).isNone)) rfl hb36 rfl) _) rfl ?_
                refine WL_val gd0 ((o_move (v := .bool ((x38).isNone)) rfl) _) rfl ?_
                refine bsplit ((x38).isNone) (fun hb39 => ?_) (fun hb39 => ?_)
                · rw [if_pos hb39] at h
                  refine WL_call (gdY (b := ((x38).isNone)) 68 rfl rfl hb39) (o_call Try.call9 argNil _) rfl (h.mono ?_)
                  rintro _ w40 ⟨x41, rfl, h⟩
                  refine WL_val gd0 ((o_pickT (v := .bool x41) rfl hb39 rfl) _) rfl ?_
                  refine WL_val gd0 ((o_assign (v := .bool x41) rfl) _) rfl ?_
                  refine WL_nil ?_
                  refine nrm ?_
                  refine WC_ret ?_
                  refine rtE ?_
                  exact gv1 rfl rfl h
                · rw [if_neg (neT hb39)] at h
                  refine WL_skip (gdN (b := ((x38).isNone)) 68 rfl rfl hb39) rfl ?_
                  refine WL_val gd0 ((o_pickF (v := .bool false) rfl hb39 rfl) _) rfl ?_
                  refine WL_val gd0 ((o_assign (v := .bool false) rfl) _) rfl ?_
                  refine WL_nil ?_
                  refine nrm ?_
                  refine WC_ret ?_
                  refine rtE ?_
                  exact gv1 rfl rfl h
              · rw [if_neg (neT hb36)] at h
                refine WL_skip (gdN (b := ((x35).isNone)) 63 rfl rfl hb36) rfl ?_
                refine WL_skip (gdN (b := ((x35).isNone)) 63 rfl rfl hb36) rfl ?_
                refine WL_skip (gdN (b := ((x35).isNone)) 63 rfl rfl hb36) rfl ?_
                refine WL_val gd0 ((o_pickF (v := .bool false) rfl hb36 rfl) _) rfl ?_
                refine WL_val gd0 ((o_move (v := .bool false) rfl) _) rfl ?_
                refine WL_skip (gdN (b := false) 68 rfl rfl rfl) rfl ?_
                refine WL_val gd0 ((o_pickF (v := .bool false) rfl rfl rfl) _) rfl ?_
                refine WL_val gd0 ((o_assign (v := .bool false) rfl) _) rfl ?_
                refine WL_nil ?_
                refine nrm ?_
                refine WC_ret ?_
                refine rtE ?_
                exact gv1 rfl rfl h
            · rw [if_neg (of_decide_eq_false hb33)] at h
              refine WL_skip (gdN (b := (decide ((x_n31 : Int) = 0))) 58 rfl rfl hb33) rfl ?_
              refine WL_skip (gdN (b := (decide ((x_n31 : Int) = 0))) 58 rfl rfl hb33) rfl ?_
              refine WL_skip (gdN (b := (decide ((x_n31 : Int) = 0))) 58 rfl rfl hb33) rfl ?_
              refine WL_val gd0 ((o_pickF (v := .bool false) rfl hb33 rfl) _) rfl ?_
              refine WL_val gd0 ((o_move (v := .bool false) rfl) _) rfl ?_
              refine WL_skip (gdN (b := false) 63 rfl rfl rfl) rfl ?_
              refine WL_skip (gdN (b := false) 63 rfl rfl rfl) rfl ?_
              refine WL_skip (gdN (b := false) 63 rfl rfl rfl) rfl ?_
              refine WL_val gd0 ((o_pickF (v := .bool false) rfl rfl rfl) _) rfl ?_
              refine WL_val gd0 ((o_move (v := .bool false) rfl) _) rfl ?_
              refine WL_skip (gdN (b := false) 68 rfl rfl rfl) rfl ?_
              refine WL_val gd0 ((o_pickF (v := .bool false) rfl rfl rfl) _) rfl ?_
              refine WL_val gd0 ((o_assign (v := .bool false) rfl) _) rfl ?_
              refine WL_nil ?_
              refine nrm ?_
              refine WC_ret ?_
              refine rtE ?_
              exact gv1 rfl rfl h
          · rw [if_neg (of_decide_eq_false hb28)] at h
            refine WL_skip (gdN (b := (decide ((x_n26 : Int) = 0))) 52 rfl rfl hb28) rfl ?_
            refine WL_skip (gdN (b := (decide ((x_n26 : Int) = 0))) 52 rfl rfl hb28) rfl ?_
            refine WL_skip (gdN (b := (decide ((x_n26 : Int) = 0))) 52 rfl rfl hb28) rfl ?_
            refine WL_skip (gdN (b := (decide ((x_n26 : Int) = 0))) 52 rfl rfl hb28) rfl ?_
            refine WL_val gd0 ((o_pickF (v := .bool false) rfl hb28 rfl) _) rfl ?_
            refine WL_val gd0 ((o_move (v := .bool false) rfl) _) rfl ?_
            refine WL_skip (gdN (b := false) 58 rfl rfl rfl) rfl ?_
            refine WL_skip (gdN (b := false) 58 rfl rfl rfl) rfl ?_
            refine WL_skip (gdN (b := false) 58 rfl rfl rfl) rfl ?_
            refine WL_val gd0 ((o_pickF (v := .bool false) rfl rfl rfl) _) rfl ?_
            refine WL_val gd0 ((o_move (v := .bool false) rfl) _) rfl ?_
            refine WL_skip (gdN (b := false) 63 rfl rfl rfl) rfl ?_
            refine WL_skip (gdN (b := false) 63 rfl rfl rfl) rfl ?_
            refine WL_skip (gdN (b := false) 63 rfl rfl rfl) rfl ?_
            refine WL_val gd0 ((o_pickF (v := .bool false) rfl rfl rfl) _) rfl ?_
            refine WL_val gd0 ((o_move (v := .bool false) rfl) _) rfl ?_
            refine WL_skip (gdN (b := false) 68 rfl rfl rfl) rfl ?_
            refine WL_val gd0 ((o_pickF (v := .bool false) rfl rfl rfl) _) rfl ?_
            refine WL_val gd0 ((o_assign (v := .bool false) rfl) _) rfl ?_
            refine WL_nil ?_
            refine nrm ?_
            refine WC_ret ?_
            refine rtE ?_
            exact gv1 rfl rfl h
        · rw [if_neg (of_decide_eq_false hb23)] at h
          refine WL_skip (gdN (b := (decide (x22 = 2))) 46 rfl rfl hb23) rfl ?_
          refine WL_skip (gdN (b := (decide (x22 = 2))) 46 rfl rfl hb23) rfl ?_
          refine WL_skip (gdN (b := (decide (x22 = 2))) 46 rfl rfl hb23) rfl ?_
          refine WL_skip (gdN (b := (decide (x22 = 2))) 46 rfl rfl hb23) rfl ?_
          refine WL_val gd0 ((o_pickF (v := .bool false) rfl hb23 rfl) _) rfl ?_
          refine WL_val gd0 ((o_move (v := .bool false) rfl) _) rfl ?_
          refine WL_skip (gdN (b := false) 52 rfl rfl rfl) rfl ?_
          refine WL_skip (gdN (b := false) 52 rfl rfl rfl) rfl ?_
          refine WL_skip (gdN (b := false) 52 rfl rfl rfl) rfl ?_
          refine WL_skip (gdN (b := false) 52 rfl rfl rfl) rfl ?_
          refine WL_val gd0 ((o_pickF (v := .bool false) rfl rfl rfl) _) rfl ?_
          refine WL_val gd0 ((o_move (v := .bool false) rfl) _) rfl ?_
          refine WL_skip (gdN (b := false) 58 rfl rfl rfl) rfl ?_
          refine WL_skip (gdN (b := false) 58 rfl rfl rfl) rfl ?_
          refine WL_skip (gdN (b := false) 58 rfl rfl rfl) rfl ?_
          refine WL_val gd0 ((o_pickF (v := .bool false) rfl rfl rfl) _) rfl ?_
          refine WL_val gd0 ((o_move (v := .bool false) rfl) _) rfl ?_
          refine WL_skip (gdN (b := false) 63 rfl rfl rfl) rfl ?_
          refine WL_skip (gdN (b := false) 63 rfl rfl rfl) rfl ?_
          refine WL_skip (gdN (b := false) 63 rfl rfl rfl) rfl ?_
          refine WL_val gd0 ((o_pickF (v := .bool false) rfl rfl rfl) _) rfl ?_
          refine WL_val gd0 ((o_move (v := .bool false) rfl) _) rfl ?_
          refine WL_skip (gdN (b := false) 68 rfl rfl rfl) rfl ?_
          refine WL_val gd0 ((o_pickF (v := .bool false) rfl rfl rfl) _) rfl ?_
          refine WL_val gd0 ((o_assign (v := .bool false) rfl) _) rfl ?_
          refine WL_nil ?_
          refine nrm ?_
          refine WC_ret ?_
          refine rtE ?_
          exact gv1 rfl rfl h
      · rw [if_neg (of_decide_eq_false hb20)] at h
        refine WL_skip (gdN (b := (decide (x19 = 2))) 39 rfl rfl hb20) rfl ?_
        refine WL_skip (gdN (b := (decide (x19 = 2))) 39 rfl rfl hb20) rfl ?_
        refine WL_skip (gdN (b := (decide (x19 = 2))) 39 rfl rfl hb20) rfl ?_
        refine WL_skip (gdN (b := (decide (x19 = 2))) 39 rfl rfl hb20) rfl ?_
        refine WL_skip (gdN (b := (decide (x19 = 2))) 39 rfl rfl hb20) rfl ?_
        refine WL_val gd0 ((o_pickF (v := .bool false) rfl hb20 rfl) _) rfl ?_
        refine WL_val gd0 ((o_move (v := .bool false) rfl) _) rfl ?_
        refine WL_skip (gdN (b := false) 46 rfl rfl rfl) rfl ?_
        refine WL_skip (gdN (b := false) 46 rfl rfl rfl) rfl ?_
        refine WL_skip (gdN (b := false) 46 rfl rfl rfl) rfl ?_
        refine WL_skip (gdN (b := false) 46 rfl rfl rfl) rfl ?_
        refine WL_val gd0 ((o_pickF (v := .bool false) rfl rfl rfl) _) rfl ?_
        refine WL_val gd0 ((o_move (v := .bool false) rfl) _) rfl ?_
        refine WL_skip (gdN (b := false) 52 rfl rfl rfl) rfl ?_
        refine WL_skip (gdN (b := false) 52 rfl rfl rfl) rfl ?_
        refine WL_skip (gdN (b := false) 52 rfl rfl rfl) rfl ?_
        refine WL_skip (gdN (b := false) 52 rfl rfl rfl) rfl ?_
        refine WL_val gd0 ((o_pickF (v := .bool false) rfl rfl rfl) _) rfl ?_
        refine WL_val gd0 ((o_move (v := .bool false) rfl) _) rfl ?_
        refine WL_skip (gdN (b := false) 58 rfl rfl rfl) rfl ?_
        refine WL_skip (gdN (b := false) 58 rfl rfl rfl) rfl ?_
        refine WL_skip (gdN (b := false) 58 rfl rfl rfl) rfl ?_
        refine WL_val gd0 ((o_pickF (v := .bool false) rfl rfl rfl) _) rfl ?_
        refine WL_val gd0 ((o_move (v := .bool false) rfl) _) rfl ?_
        refine WL_skip (gdN (b := false) 63 rfl rfl rfl) rfl ?_
        refine WL_skip (gdN (b := false) 63 rfl rfl rfl) rfl ?_
        refine WL_skip (gdN (b := false) 63 rfl rfl rfl) rfl ?_
        refine WL_val gd0 ((o_pickF (v := .bool false) rfl rfl rfl) _) rfl ?_
        refine WL_val gd0 ((o_move (v := .bool false) rfl) _) rfl ?_
        refine WL_skip (gdN (b := false) 68 rfl rfl rfl) rfl ?_
        refine WL_val gd0 ((o_pickF (v := .bool false) rfl rfl rfl) _) rfl ?_
        refine WL_val gd0 ((o_assign (v := .bool false) rfl) _) rfl ?_
        refine WL_nil ?_
        refine nrm ?_
        refine WC_ret ?_
        refine rtE ?_
        exact gv1 rfl rfl h
    · rw [if_neg (of_decide_eq_false hb17)] at h
      refine WL_skip (gdN (b := (decide (r15 = 2))) 32 rfl rfl hb17) rfl ?_
      refine WL_skip (gdN (b := (decide (r15 = 2))) 32 rfl rfl hb17) rfl ?_
      refine WL_skip (gdN (b := (decide (r15 = 2))) 32 rfl rfl hb17) rfl ?_
      refine WL_skip (gdN (b := (decide (r15 = 2))) 32 rfl rfl hb17) rfl ?_
      refine WL_skip (gdN (b := (decide (r15 = 2))) 32 rfl rfl hb17) rfl ?_
      refine WL_val gd0 ((o_pickF (v := .bool false) rfl hb17 rfl) _) rfl ?_
      refine WL_val gd0 ((o_move (v := .bool false) rfl) _) rfl ?_
      refine WL_skip (gdN (b := false) 39 rfl rfl rfl) rfl ?_
      refine WL_skip (gdN (b := false) 39 rfl rfl rfl) rfl ?_
      refine WL_skip (gdN (b := false) 39 rfl rfl rfl) rfl ?_
      refine WL_skip (gdN (b := false) 39 rfl rfl rfl) rfl ?_
      refine WL_skip (gdN (b := false) 39 rfl rfl rfl) rfl ?_
      refine WL_val gd0 ((o_pickF (v := .bool false) rfl rfl rfl) _) rfl ?_
      refine WL_val gd0 ((o_move (v := .bool false) rfl) _) rfl ?_
      refine WL_skip (gdN (b := false) 46 rfl rfl rfl) rfl ?_
      refine WL_skip (gdN (b := false) 46 rfl rfl rfl) rfl ?_
      refine WL_skip (gdN (b := false) 46 rfl rfl rfl) rfl ?_
      refine WL_skip (gdN (b := false) 46 rfl rfl rfl) rfl ?_
      refine WL_val gd0 ((o_pickF (v := .bool false) rfl rfl rfl) _) rfl ?_
      refine WL_val gd0 ((o_move (v := .bool false) rfl) _) rfl ?_
      refine WL_skip (gdN (b := false) 52 rfl rfl rfl) rfl ?_
      refine WL_skip (gdN (b := false) 52 rfl rfl rfl) rfl ?_
      refine WL_skip (gdN (b := false) 52 rfl rfl rfl) rfl ?_
      refine WL_skip (gdN (b := false) 52 rfl rfl rfl) rfl ?_
      refine WL_val gd0 ((o_pickF (v := .bool false) rfl rfl rfl) _) rfl ?_
      refine WL_val gd0 ((o_move (v := .bool false) rfl) _) rfl ?_
      refine WL_skip (gdN (b := false) 58 rfl rfl rfl) rfl ?_
      refine WL_skip (gdN (b := false) 58 rfl rfl rfl) rfl ?_
      refine WL_skip (gdN (b := false) 58 rfl rfl rfl) rfl ?_
      refine WL_val gd0 ((o_pickF (v := .bool false) rfl rfl rfl) _) rfl ?_
      refine WL_val gd0 ((o_move (v := .bool false) rfl) _) rfl ?_
      refine WL_skip (gdN (b := false) 63 rfl rfl rfl) rfl ?_
      refine WL_skip (gdN (b := false) 63 rfl rfl rfl) rfl ?_
      refine WL_skip (gdN (b := false) 63 rfl rfl rfl) rfl ?_
      refine WL_val gd0 ((o_pickF (v := .bool false) rfl rfl rfl) _) rfl ?_
      refine WL_val gd0 ((o_move (v := .bool false) rfl) _) rfl ?_
      refine WL_skip (gdN (b := false) 68 rfl rfl rfl) rfl ?_
      refine WL_val gd0 ((o_pickF (v := .bool false) rfl rfl rfl) _) rfl ?_
      refine WL_val gd0 ((o_assign (v := .bool false) rfl) _) rfl ?_
      refine WL_nil ?_
      refine nrm ?_
      refine WC_ret ?_
      refine rtE ?_
      exact gv1 rfl rfl h
  · rw [if_neg (of_decide_eq_false hb16)] at h
    refine WL_skip (gdN (b := (decide (r8 = 2))) 28 rfl rfl hb16) rfl ?_
    refine WL_skip (gdN (b := (decide (r8 = 2))) 28 rfl rfl hb16) rfl ?_
    refine WL_val gd0 ((o_pickF (v := .bool false) rfl hb16 rfl) _) rfl ?_
    refine WL_val gd0 ((o_move (v := .bool false) rfl) _) rfl ?_
    refine WL_skip (gdN (b := false) 32 rfl rfl rfl) rfl ?_
    refine WL_skip (gdN (b := false) 32 rfl rfl rfl) rfl ?_
    refine WL_skip (gdN (b := false) 32 rfl rfl rfl) rfl ?_
    refine WL_skip (gdN (b := false) 32 rfl rfl rfl) rfl ?_
    refine WL_skip (gdN (b := false) 32 rfl rfl rfl) rfl ?_
    refine WL_val gd0 ((o_pickF (v := .bool false) rfl rfl rfl) _) rfl ?_
    refine WL_val gd0 ((o_move (v := .bool false) rfl) _) rfl ?_
    refine WL_skip (gdN (b := false) 39 rfl rfl rfl) rfl ?_
    refine WL_skip (gdN (b := false) 39 rfl rfl rfl) rfl ?_
    refine WL_skip (gdN (b := false) 39 rfl rfl rfl) rfl ?_
    refine WL_skip (gdN (b := false) 39 rfl rfl rfl) rfl ?_
    refine WL_skip (gdN (b := false) 39 rfl rfl rfl) rfl ?_
    refine WL_val gd0 ((o_pickF (v := .bool false) rfl rfl rfl) _) rfl ?_
    refine WL_val gd0 ((o_move (v := .bool false) rfl) _) rfl ?_
    refine WL_skip (gdN (b := false) 46 rfl rfl rfl) rfl ?_
    refine WL_skip (gdN (b := false) 46 rfl rfl rfl) rfl ?_
    refine WL_skip (gdN (b := false) 46 rfl rfl rfl) rfl ?_
    refine WL_skip (gdN (b := false) 46 rfl rfl rfl) rfl ?_
    refine WL_val gd0 ((o_pickF (v := .bool false) rfl rfl rfl) _) rfl ?_
    refine WL_val gd0 ((o_move (v := .bool false) rfl) _) rfl ?_
    refine WL_skip (gdN (b := false) 52 rfl rfl rfl) rfl ?_
    refine WL_skip (gdN (b := false) 52 rfl rfl rfl) rfl ?_
    refine WL_skip (gdN (b := false) 52 rfl rfl rfl) rfl ?_
    refine WL_skip (gdN (b := false) 52 rfl rfl rfl) rfl ?_
    refine WL_val gd0 ((o_pickF (v := .bool false) rfl rfl rfl) _) rfl ?_
    refine WL_val gd0 ((o_move (v := .bool false) rfl) _) rfl ?_
    refine WL_skip (gdN (b := false) 58 rfl rfl rfl) rfl ?_
    refine WL_skip (gdN (b := false) 58 rfl rfl rfl) rfl ?_
    refine WL_skip (gdN (b := false) 58 rfl rfl rfl) rfl ?_
    refine WL_val gd0 ((o_pickF (v := .bool false) rfl rfl rfl) _) rfl ?_
    refine WL_val gd0 ((o_move (v := .bool false) rfl) _) rfl ?_
    refine WL_skip (gdN (b := false) 63 rfl rfl rfl) rfl ?_
    refine WL_skip (gdN (b := false) 63 rfl rfl rfl) rfl ?_
    refine WL_skip (gdN (b := false) 63 rfl rfl rfl) rfl ?_
    refine WL_val gd0 ((o_pickF (v := .bool false) rfl rfl rfl) _) rfl ?_
    refine WL_val gd0 ((o_move (v := .bool false) rfl) _) rfl ?_
    refine WL_skip (gdN (b := false) 68 rfl rfl rfl) rfl ?_
    refine WL_val gd0 ((o_pickF (v := .bool false) rfl rfl rfl) _) rfl ?_
    refine WL_val gd0 ((o_assign (v := .bool false) rfl) _) rfl ?_
    refine WL_nil ?_
    refine nrm ?_
    refine WC_ret ?_
    refine rtE ?_
    exact gv1 rfl rfl h

/-- spacecraft spacecraftlaw33.alive -/
def F9 (w1 : World) (k : Value → World → Prop) : Prop :=
  Does Try.prog 24 #[] w1 (fun v w2 => ∃ (x_a3 : Option Addr) (x_n4 x_c5 : Nat), v = .slice x_a3 x_n4 x_c5 ∧ Does Try.prog 13 #[.slice x_a3 x_n4 x_c5] w2 (fun v w6 => ∃ (r7 : Option Addr) (r8 : Int), v = .tuple #[.pointer r7, .int .i64 r8] ∧ if r8 ≠ 0 then
  k (.bool false) w6
else
  New w6 3 [.int .i64 1, .int .i64 2] (fun p10 w11 => Does Try.prog 14 #[.pointer r7, .slice (some p10) 2 2] w11 (fun v w12 => ∃ (r_a13 : Option Addr) (r_n14 r_c15 : Nat) (r16 : Int), v = .tuple #[.slice r_a13 r_n14 r_c15, .int .i64 r16] ∧ Does Try.prog 24 #[] w12 (fun v w17 => ∃ (x_a18 : Option Addr) (x_n19 x_c20 : Nat), v = .slice x_a18 x_n19 x_c20 ∧ New w17 3 [.int .i64 1, .int .i64 2] (fun p21 w22 => Does Try.prog 10 #[.slice x_a18 x_n19 x_c20, .slice (some p21) 2 2, .slice r_a13 r_n14 r_c15] w22 (fun v w23 => ∃ (r_a24 : Option Addr) (r_n25 r_c26 : Nat) (r27 : Int), v = .tuple #[.slice r_a24 r_n25 r_c26, .int .i64 r27] ∧ Does Try.prog 16 #[.pointer r7, .int .i64 2, .int .i64 63] w23 (fun v w28 => ∃ (h29 : Int), v = .int .i64 h29 ∧ Does Try.prog 16 #[.pointer r7, .int .i64 2, .int .i64 64] w28 (fun v w30 => ∃ (i31 : Int), v = .int .i64 i31 ∧ Does Try.prog 15 #[.pointer r7, .int .i64 2] w30 (fun v w32 => ∃ (r33 r34 : Int), v = .tuple #[.int .i64 r33, .int .i64 r34] ∧ Does Try.prog 15 #[.pointer r7, .int .i64 3] w32 (fun v w35 => ∃ (r36 r37 : Int), v = .tuple #[.int .i64 r36, .int .i64 r37] ∧ if r16 = 0 then
    if r27 = 0 then
      ∃ (s40 : ByteArray), (Conv.bytesToString (.slice r_a13 r_n14 r_c15)).run Try.prog w35 = .ok (.string s40) w35 ∧ if (s40.toList == (ByteArray.mk #[191, 128]).toList) = true then
        New w35 40 [.int .i64 1, .int .i64 5, .int .i64 2, .int .i64 (-2)] (fun p43 w44 => Does Try.prog 12 #[.slice r_a24 r_n25 r_c26, .slice (some p43) 2 2] w44 (fun v w45 => ∃ (x46 : Bool), v = .bool x46 ∧ if x46 = true then
          if h29 = 0 then
            if i31 = 1 then
              if r33 = 63 then
                if r34 = 0 then
                  k (.bool (decide (r37 = 8))) w45
                else
                  k (.bool false) w45
              else
                k (.bool false) w45
            else
              k (.bool false) w45
          else
            k (.bool false) w45
        else
          k (.bool false) w45))
      else
        k (.bool false) w35
    else
      k (.bool false) w35
  else
    k (.bool false) w35)))))))))))
set_option maxRecDepth 100000 in
set_option maxHeartbeats 2000000 in
theorem w9 (w1 : World) (k : Value → World → Prop) (h : F9 w1 k) : Does Try.prog 9 #[] w1 k := by
  refine enter 85 Try.func9 rfl rfl rfl ?_
  intro ρ hρ
  unfold F9 at h
  refine WC_seq ?_
  refine WC_region ?_
  refine WL_val gd0 ((o_assign (v := .bool false) rfl) _) rfl ?_
  refine WL_nil ?_
  refine nrm ?_
  refine WC_seq ?_
  refine WC_region ?_
  refine WL_call gd0 (o_call Try.call24 argNil _) rfl (h.mono ?_)
  rintro _ w2 ⟨x_a3, x_n4, x_c5, rfl, h⟩
  refine WL_call gd0 (o_call Try.call13 (argCons rfl argNil) _) rfl (h.mono ?_)
  rintro _ w6 ⟨r7, r8, rfl, h⟩
  refine WL_val gd0 ((o_move (v := .tuple #[.pointer r7, .int .i64 r8]) rfl) _) rfl ?_
  refine WL_val gd0 ((o_extract (vs := [.pointer r7, .int .i64 r8]) (r := .pointer r7) rfl rfl) _) rfl ?_
  refine WL_val gd0 ((o_extract (vs := [.pointer r7, .int .i64 r8]) (r := .int .i64 r8) rfl rfl) _) rfl ?_
  refine WL_val gd0 ((o_assign (v := .pointer r7) rfl) _) rfl ?_
  refine WL_val gd0 ((o_assign (v := .int .i64 r8) rfl) _) rfl ?_
  refine WL_nil ?_
  refine nrm ?_
  refine WC_seq ?_
  refine WC_seq ?_
  refine WC_region ?_
  refine WL_val gd0 ((o_move (v := .int .i64 r8) rfl) _) rfl ?_
  refine WL_val gd0 ((o_neq rfl rfl) _) rfl ?_
  refine WL_nil ?_
  refine nrm ?_
  refine WC_cond (t := (decide (r8 ≠ 0))) rfl (fun hb9 => ?_) (fun hb9 => ?_)
  · rw [if_pos (of_decide_eq_true hb9)] at h
    refine WC_seq ?_
    refine WC_region ?_
    refine WL_val gd0 ((o_assign (v := .bool false) rfl) _) rfl ?_
    refine WL_nil ?_
    refine nrm ?_
    refine WC_ret ?_
    refine rtT ?_
    refine rtE ?_
    exact gv1 rfl rfl h
  · rw [if_neg (of_decide_eq_false hb9)] at h
    refine WC_skip ?_
    refine nrm ?_
    refine WC_seq ?_
    refine WC_region ?_
    refine WL_val gd0 ((o_move (v := .pointer r7) rfl) _) rfl ?_
    have h := New.out h
    refine WL_val gd0 (o_buildSlice (e := 3) (ps := [(0, .int .i64 1), (1, .int .i64 2)]) (cs := [.int .i64 1, .int .i64 2]) (partCons rfl (partCons rfl partNil)) (fun w => by kernel_rfl)) rfl ?_
    generalize hp10 : fresh w6 = p10 at h ⊢
    generalize hw11 : push w6 3 [.int .i64 1, .int .i64 2] = w11 at h ⊢
    try dsimp only at h
    refine WL_call gd0 (o_call Try.call14 (argCons rfl (argCons rfl argNil)) _) rfl (h.mono ?_)
    rintro _ w12 ⟨r_a13, r_n14, r_c15, r16, rfl, h⟩
    refine WL_val gd0 ((o_move (v := .tuple #[.slice r_a13 r_n14 r_c15, .int .i64 r16]) rfl) _) rfl ?_
    refine WL_val gd0 ((o_extract (vs := [.slice r_a13 r_n14 r_c15, .int .i64 r16]) (r := .slice r_a13 r_n14 r_c15) rfl rfl) _) rfl ?_
    refine WL_val gd0 ((o_extract (vs := [.slice r_a13 r_n14 r_c15, .int .i64 r16]) (r := .int .i64 r16) rfl rfl) _) rfl ?_
    refine WL_val gd0 ((o_assign (v := .slice r_a13 r_n14 r_c15) rfl) _) rfl ?_
    refine WL_val gd0 ((o_assign (v := .int .i64 r16) rfl) _) rfl ?_
    refine WL_nil ?_
    refine nrm ?_
    refine WC_seq ?_
    refine WC_region ?_
    refine WL_call gd0 (o_call Try.call24 argNil _) rfl (h.mono ?_)
    rintro _ w17 ⟨x_a18, x_n19, x_c20, rfl, h⟩
    have h := New.out h
    refine WL_val gd0 (o_buildSlice (e := 3) (ps := [(0, .int .i64 1), (1, .int .i64 2)]) (cs := [.int .i64 1, .int .i64 2]) (partCons rfl (partCons rfl partNil)) (fun w => by kernel_rfl)) rfl ?_
    generalize hp21 : fresh w17 = p21 at h ⊢
    generalize hw22 : push w17 3 [.int .i64 1, .int .i64 2] = w22 at h ⊢
    try dsimp only at h
    refine WL_val gd0 ((o_move (v := .slice r_a13 r_n14 r_c15) rfl) _) rfl ?_
    refine WL_call gd0 (o_call Try.call10 (argCons rfl (argCons rfl (argCons rfl argNil))) _) rfl (h.mono ?_)
    rintro _ w23 ⟨r_a24, r_n25, r_c26, r27, rfl, h⟩
    refine WL_val gd0 ((o_move (v := .tuple #[.slice r_a24 r_n25 r_c26, .int .i64 r27]) rfl) _) rfl ?_
    refine WL_val gd0 ((o_extract (vs := [.slice r_a24 r_n25 r_c26, .int .i64 r27]) (r := .slice r_a24 r_n25 r_c26) rfl rfl) _) rfl ?_
    refine WL_val gd0 ((o_extract (vs := [.slice r_a24 r_n25 r_c26, .int .i64 r27]) (r := .int .i64 r27) rfl rfl) _) rfl ?_
    refine WL_val gd0 ((o_assign (v := .slice r_a24 r_n25 r_c26) rfl) _) rfl ?_
    refine WL_val gd0 ((o_assign (v := .int .i64 r27) rfl) _) rfl ?_
    refine WL_nil ?_
    refine nrm ?_
    refine WC_seq ?_
    refine WC_region ?_
    refine WL_val gd0 ((o_move (v := .pointer r7) rfl) _) rfl ?_
    refine WL_call gd0 (o_call Try.call16 (argCons rfl (argCons rfl (argCons rfl argNil))) _) rfl (h.mono ?_)
    rintro _ w28 ⟨h29, rfl, h⟩
    refine WL_val gd0 ((o_assign (v := .int .i64 h29) rfl) _) rfl ?_
    refine WL_nil ?_
    refine nrm ?_
    refine WC_seq ?_
    refine WC_region ?_
    refine WL_val gd0 ((o_move (v := .pointer r7) rfl) _) rfl ?_
    refine WL_call gd0 (o_call Try.call16 (argCons rfl (argCons rfl (argCons rfl argNil))) _) rfl (h.mono ?_)
    rintro _ w30 ⟨i31, rfl, h⟩
    refine WL_val gd0 ((o_assign (v := .int .i64 i31) rfl) _) rfl ?_
    refine WL_nil ?_
    refine nrm ?_
    refine WC_seq ?_
    refine WC_region ?_
    refine WL_val gd0 ((o_move (v := .pointer r7) rfl) _) rfl ?_
    refine WL_call gd0 (o_call Try.call15 (argCons rfl (argCons rfl argNil)) _) rfl (h.mono ?_)
    rintro _ w32 ⟨r33, r34, rfl, h⟩
    refine WL_val gd0 ((o_move (v := .tuple #[.int .i64 r33, .int .i64 r34]) rfl) _) rfl ?_
    refine WL_val gd0 ((o_extract (vs := [.int .i64 r33, .int .i64 r34]) (r := .int .i64 r33) rfl rfl) _) rfl ?_
    refine WL_val gd0 ((o_extract (vs := [.int .i64 r33, .int .i64 r34]) (r := .int .i64 r34) rfl rfl) _) rfl ?_
    refine WL_val gd0 ((o_assign (v := .int .i64 r33) rfl) _) rfl ?_
    refine WL_val gd0 ((o_assign (v := .int .i64 r34) rfl) _) rfl ?_
    refine WL_nil ?_
    refine nrm ?_
    refine WC_seq ?_
    refine WC_region ?_
    refine WL_val gd0 ((o_move (v := .pointer r7) rfl) _) rfl ?_
    refine WL_call gd0 (o_call Try.call15 (argCons rfl (argCons rfl argNil)) _) rfl (h.mono ?_)
    rintro _ w35 ⟨r36, r37, rfl, h⟩
    refine WL_val gd0 ((o_move (v := .tuple #[.int .i64 r36, .int .i64 r37]) rfl) _) rfl ?_
    refine WL_val gd0 ((o_extract (vs := [.int .i64 r36, .int .i64 r37]) (r := .int .i64 r36) rfl rfl) _) rfl ?_
    refine WL_val gd0 ((o_extract (vs := [.int .i64 r36, .int .i64 r37]) (r := .int .i64 r37) rfl rfl) _) rfl ?_
    refine WL_val gd0 ((o_assign (v := .int .i64 r36) rfl) _) rfl ?_
    refine WL_val gd0 ((o_assign (v := .int .i64 r37) rfl) _) rfl ?_
    refine WL_nil ?_
    refine nrm ?_
    refine WC_seq ?_
    refine WC_region ?_
    refine WL_val gd0 ((o_move (v := .int .i64 r16) rfl) _) rfl ?_
    refine WL_val gd0 ((o_eql rfl rfl) _) rfl ?_
    refine WL_val gd0 ((o_move (v := .bool (decide (r16 = 0))) rfl) _) rfl ?_
    refine bsplit (decide (r16 = 0)) (fun hb38 => ?_) (fun hb38 => ?_)
    · rw [if_pos (of_decide_eq_true hb38)] at h
      refine WL_val (gdY (b := (decide (r16 = 0))) 49 rfl rfl hb38) ((o_move (v := .int .i64 r27) rfl) _) rfl ?_
      refine WL_val (gdY (b := (decide (r16 = 0))) 49 rfl rfl hb38) ((o_eql rfl rfl) _) rfl ?_
      refine WL_val gd0 ((o_pickT (v := .bool (decide (r27 = 0))) rfl hb38 rfl) _) rfl ?_
      refine WL_val gd0 ((o_move (v := .bool (decide (r27 = 0))) rfl) _) rfl ?_
      refine bsplit (decide (r27 = 0)) (fun hb39 => ?_) (fun hb39 => ?_)
      · rw [if_pos (of_decide_eq_true hb39)] at h
        refine WL_val (gdY (b := (decide (r27 = 0))) 53 rfl rfl hb39) ((o_move (v := .slice r_a13 r_n14 r_c15) rfl) _) rfl ?_
        obtain ⟨s40, r41, h⟩ := h
        refine WL_val (gdY (b := (decide (r27 = 0))) 53 rfl rfl hb39) (o_toStr Try.underlying24 Try.underlying5 Try.underlying9 rfl r41) rfl ?_
        refine WL_val (gdY (b := (decide (r27 = 0))) 53 rfl rfl hb39) ((o_eqlStr rfl rfl) _) rfl ?_
        refine WL_val gd0 ((o_pickT (v := .bool (s40.toList == (ByteArray.mk #[191, 128]).toList)) rfl hb39 rfl) _) rfl ?_
        refine WL_val gd0 ((o_move (v := .bool (s40.toList == (ByteArray.mk #[191, 128]).toList)) rfl) _) rfl ?_
        refine bsplit (s40.toList == (ByteArray.mk #[191, 128]).toList) (fun hb42 => ?_) (fun hb42 => ?_)
        · rw [if_pos hb42] at h
          refine WL_val (gdY (b := (s40.toList == (ByteArray.mk #[191, 128]).toList)) 58 rfl rfl hb42) ((o_move (v := .slice r_a24 r_n25 r_c26) rfl) _) rfl ?_
          refine WL_val (gdY (b := (s40.toList == (ByteArray.mk #[191, 128]).toList)) 58 rfl rfl hb42) ((o_build (ps := [(0, .int .i64 1), (1, .int .i64 5)]) (v := .agg #[.int .i64 1, .int .i64 5]) (partCons rfl (partCons rfl partNil)) (fun w => by kernel_rfl)) _) rfl ?_
          refine WL_val (gdY (b := (s40.toList == (ByteArray.mk #[191, 128]).toList)) 58 rfl rfl hb42) ((o_build (ps := [(0, .int .i64 2), (1, .int .i64 (-2))]) (v := .agg #[.int .i64 2, .int .i64 (-2)]) (partCons rfl (partCons rfl partNil)) (fun w => by kernel_rfl)) _) rfl ?_
          have h := New.out h
          refine WL_val (gdY (b := (s40.toList == (ByteArray.mk #[191, 128]).toList)) 58 rfl rfl hb42) (o_buildSlice (e := 40) (ps := [(0, .agg #[.int .i64 1, .int .i64 5]), (1, .agg #[.int .i64 2, .int .i64 (-2)])]) (cs := [.int .i64 1, .int .i64 5, .int .i64 2, .int .i64 (-2)]) (partCons rfl (partCons rfl partNil)) (fun w => by kernel_rfl)) rfl ?_
          generalize hp43 : fresh w35 = p43 at h ⊢
          generalize hw44 : push w35 40 [.int .i64 1, .int .i64 5, .int .i64 2, .int .i64 (-2)] = w44 at h ⊢
          try dsimp only at h
          refine WL_call (gdY (b := (s40.toList == (ByteArray.mk #[191, 128]).toList)) 58 rfl rfl hb42) (o_call Try.call12 (argCons rfl (argCons rfl argNil)) _) rfl (h.mono ?_)
          rintro _ w45 ⟨x46, rfl, h⟩
          refine WL_val gd0 ((o_pickT (v := .bool x46) rfl hb42 rfl) _) rfl ?_
          refine WL_val gd0 ((o_move (v := .bool x46) rfl) _) rfl ?_
          refine bsplit x46 (fun hb47 => ?_) (fun hb47 => ?_)
          · rw [if_pos hb47] at h
            refine WL_val (gdY (b := x46) 65 rfl rfl hb47) ((o_move (v := .int .i64 h29) rfl) _) rfl ?_
            refine WL_val (gdY (b := x46) 65 rfl rfl hb47) ((o_eql rfl rfl) _) rfl ?_
            refine WL_val gd0 ((o_pickT (v := .bool (decide (h29 = 0))) rfl hb47 rfl) _) rfl ?_
            refine WL_val gd0 ((o_move (v := .bool (decide (h29 = 0))) rfl) _) rfl ?_
            refine bsplit (decide (h29 = 0)) (fun hb48 => ?_) (fun hb48 => ?_)
            · rw [if_pos (of_decide_eq_true hb48)] at h
              refine WL_val (gdY (b := (decide (h29 = 0))) 69 rfl rfl hb48) ((o_move (v := .int .i64 i31) rfl) _) rfl ?_
              refine WL_val (gdY (b := (decide (h29 = 0))) 69 rfl rfl hb48) ((o_eql rfl rfl) _) rfl ?_
              refine WL_val gd0 ((o_pickT (v := .bool (decide (i31 = 1))) rfl hb48 rfl) _) rfl ?_
              refine WL_val gd0 ((o_move (v := .bool (decide (i31 = 1))) rfl) _) rfl ?_
              refine bsplit (decide (i31 = 1)) (fun hb49 => ?_) (fun hb49 => ?_)
              · rw [if_pos (of_decide_eq_true hb49)] at h
                refine WL_val (gdY (b := (decide (i31 = 1))) 73 rfl rfl hb49) ((o_move (v := .int .i64 r33) rfl) _) rfl ?_
                refine WL_val (gdY (b := (decide (i31 = 1))) 73 rfl rfl hb49) ((o_eql rfl rfl) _) rfl ?_
                refine WL_val gd0 ((o_pickT (v := .bool (decide (r33 = 63))) rfl hb49 rfl) _) rfl ?_
                refine WL_val gd0 ((o_move (v := .bool (decide (r33 = 63))) rfl) _) rfl ?_
                refine bsplit (decide (r33 = 63)) (fun hb50 => ?_) (fun hb50 => ?_)
                · rw [if_pos (of_decide_eq_true hb50)] at h
                  refine WL_val (gdY (b := (decide (r33 = 63))) 77 rfl rfl hb50) ((o_move (v := .int .i64 r34) rfl) _) rfl ?_
                  refine WL_val (gdY (b := (decide (r33 = 63))) 77 rfl rfl hb50) ((o_eql rfl rfl) _) rfl ?_
                  refine WL_val gd0 ((o_pickT (v := .bool (decide (r34 = 0))) rfl hb50 rfl) _) rfl ?_
                  refine WL_val gd0 ((o_move (v := .bool (decide (r34 = 0))) rfl) _) rfl ?_
                  refine bsplit (decide (r34 = 0)) (fun hb51 => ?_) (fun hb51 => ?_)
                  · rw [if_pos (of_decide_eq_true hb51)] at h
                    refine WL_val (gdY (b := (decide (r34 = 0))) 81 rfl rfl hb51) ((o_move (v := .int .i64 r37) rfl) _) rfl ?_
                    refine WL_val (gdY (b := (decide (r34 = 0))) 81 rfl rfl hb51) ((o_eql rfl rfl) _) rfl ?_
                    refine WL_val gd0 ((o_pickT (v := .bool (decide (r37 = 8))) rfl hb51 rfl) _) rfl ?_
                    refine WL_val gd0 ((o_assign (v := .bool (decide (r37 = 8))) rfl) _) rfl ?_
                    refine WL_nil ?_
                    refine nrm ?_
                    refine WC_ret ?_
                    refine rtE ?_
                    exact gv1 rfl rfl h
                  · rw [if_neg (of_decide_eq_false hb51)] at h
                    refine WL_skip (gdN (b := (decide (r34 = 0))) 81 rfl rfl hb51) rfl ?_
                    refine WL_skip (gdN (b := (decide (r34 = 0))) 81 rfl rfl hb51) rfl ?_
                    refine WL_val gd0 ((o_pickF (v := .bool false) rfl hb51 rfl) _) rfl ?_
                    refine WL_val gd0 ((o_assign (v := .bool false) rfl) _) rfl ?_
                    refine WL_nil ?_
                    refine nrm ?_
                    refine WC_ret ?_
                    refine rtE ?_
                    exact gv1 rfl rfl h
                · rw [if_neg (of_decide_eq_false hb50)] at h
                  refine WL_skip (gdN (b := (decide (r33 = 63))) 77 rfl rfl hb50) rfl ?_
                  refine WL_skip (gdN (b := (decide (r33 = 63))) 77 rfl rfl hb50) rfl ?_
                  refine WL_val gd0 ((o_pickF (v := .bool false) rfl hb50 rfl) _) rfl ?_
                  refine WL_val gd0 ((o_move (v := .bool false) rfl) _) rfl ?_
                  refine WL_skip (gdN (b := false) 81 rfl rfl rfl) rfl ?_
                  refine WL_skip (gdN (b := false) 81 rfl rfl rfl) rfl ?_
                  refine WL_val gd0 ((o_pickF (v := .bool false) rfl rfl rfl) _) rfl ?_
                  refine WL_val gd0 ((o_assign (v := .bool false) rfl) _) rfl ?_
                  refine WL_nil ?_
                  refine nrm ?_
                  refine WC_ret ?_
                  refine rtE ?_
                  exact gv1 rfl rfl h
              · rw [if_neg (of_decide_eq_false hb49)] at h
                refine WL_skip (gdN (b := (decide (i31 = 1))) 73 rfl rfl hb49) rfl ?_
                refine WL_skip (gdN (b := (decide (i31 = 1))) 73 rfl rfl hb49) rfl ?_
                refine WL_val gd0 ((o_pickF (v := .bool false) rfl hb49 rfl) _) rfl ?_
                refine WL_val gd0 ((o_move (v := .bool false) rfl) _) rfl ?_
                refine WL_skip (gdN (b := false) 77 rfl rfl rfl) rfl ?_
                refine WL_skip (gdN (b := false) 77 rfl rfl rfl) rfl ?_
                refine WL_val gd0 ((o_pickF (v := .bool false) rfl rfl rfl) _) rfl ?_
                refine WL_val gd0 ((o_move (v := .bool false) rfl) _) rfl ?_
                refine WL_skip (gdN (b := false) 81 rfl rfl rfl) rfl ?_
                refine WL_skip (gdN (b := false) 81 rfl rfl rfl) rfl ?_
                refine WL_val gd0 ((o_pickF (v := .bool false) rfl rfl rfl) _) rfl ?_
                refine WL_val gd0 ((o_assign (v := .bool false) rfl) _) rfl ?_
                refine WL_nil ?_
                refine nrm ?_
                refine WC_ret ?_
                refine rtE ?_
                exact gv1 rfl rfl h
            · rw [if_neg (of_decide_eq_false hb48)] at h
              refine WL_skip (gdN (b := (decide (h29 = 0))) 69 rfl rfl hb48) rfl ?_
              refine WL_skip (gdN (b := (decide (h29 = 0))) 69 rfl rfl hb48) rfl ?_
              refine WL_val gd0 ((o_pickF (v := .bool false) rfl hb48 rfl) _) rfl ?_
              refine WL_val gd0 ((o_move (v := .bool false) rfl) _) rfl ?_
              refine WL_skip (gdN (b := false) 73 rfl rfl rfl) rfl ?_
              refine WL_skip (gdN (b := false) 73 rfl rfl rfl) rfl ?_
              refine WL_val gd0 ((o_pickF (v := .bool false) rfl rfl rfl) _) rfl ?_
              refine WL_val gd0 ((o_move (v := .bool false) rfl) _) rfl ?_
              refine WL_skip (gdN (b := false) 77 rfl rfl rfl) rfl ?_
              refine WL_skip (gdN (b := false) 77 rfl rfl rfl) rfl ?_
              refine WL_val gd0 ((o_pickF (v := .bool false) rfl rfl rfl) _) rfl ?_
              refine WL_val gd0 ((o_move (v := .bool false) rfl) _) rfl ?_
              refine WL_skip (gdN (b := false) 81 rfl rfl rfl) rfl ?_
              refine WL_skip (gdN (b := false) 81 rfl rfl rfl) rfl ?_
              refine WL_val gd0 ((o_pickF (v := .bool false) rfl rfl rfl) _) rfl ?_
              refine WL_val gd0 ((o_assign (v := .bool false) rfl) _) rfl ?_
              refine WL_nil ?_
              refine nrm ?_
              refine WC_ret ?_
              refine rtE ?_
              exact gv1 rfl rfl h
          · rw [if_neg (neT hb47)] at h
            refine WL_skip (gdN (b := x46) 65 rfl rfl hb47) rfl ?_
            refine WL_skip (gdN (b := x46) 65 rfl rfl hb47) rfl ?_
            refine WL_val gd0 ((o_pickF (v := .bool false) rfl hb47 rfl) _) rfl ?_
            refine WL_val gd0 ((o_move (v := .bool false) rfl) _) rfl ?_
            refine WL_skip (gdN (b := false) 69 rfl rfl rfl) rfl ?_
            refine WL_skip (gdN (b := false) 69 rfl rfl rfl) rfl ?_
            refine WL_val gd0 ((o_pickF (v := .bool false) rfl rfl rfl) _) rfl ?_
            refine WL_val gd0 ((o_move (v := .bool false) rfl) _) rfl ?_
            refine WL_skip (gdN (b := false) 73 rfl rfl rfl) rfl ?_
            refine WL_skip (gdN (b := false) 73 rfl rfl rfl) rfl ?_
            refine WL_val gd0 ((o_pickF (v := .bool false) rfl rfl rfl) _) rfl ?_
            refine WL_val gd0 ((o_move (v := .bool false) rfl) _) rfl ?_
            refine WL_skip (gdN (b := false) 77 rfl rfl rfl) rfl ?_
            refine WL_skip (gdN (b := false) 77 rfl rfl rfl) rfl ?_
            refine WL_val gd0 ((o_pickF (v := .bool false) rfl rfl rfl) _) rfl ?_
            refine WL_val gd0 ((o_move (v := .bool false) rfl) _) rfl ?_
            refine WL_skip (gdN (b := false) 81 rfl rfl rfl) rfl ?_
            refine WL_skip (gdN (b := false) 81 rfl rfl rfl) rfl ?_
            refine WL_val gd0 ((o_pickF (v := .bool false) rfl rfl rfl) _) rfl ?_
            refine WL_val gd0 ((o_assign (v := .bool false) rfl) _) rfl ?_
            refine WL_nil ?_
            refine nrm ?_
            refine WC_ret ?_
            refine rtE ?_
            exact gv1 rfl rfl h
        · rw [if_neg (neT hb42)] at h
          refine WL_skip (gdN (b := (s40.toList == (ByteArray.mk #[191, 128]).toList)) 58 rfl rfl hb42) rfl ?_
          refine WL_skip (gdN (b := (s40.toList == (ByteArray.mk #[191, 128]).toList)) 58 rfl rfl hb42) rfl ?_
          refine WL_skip (gdN (b := (s40.toList == (ByteArray.mk #[191, 128]).toList)) 58 rfl rfl hb42) rfl ?_
          refine WL_skip (gdN (b := (s40.toList == (ByteArray.mk #[191, 128]).toList)) 58 rfl rfl hb42) rfl ?_
          refine WL_skip (gdN (b := (s40.toList == (ByteArray.mk #[191, 128]).toList)) 58 rfl rfl hb42) rfl ?_
          refine WL_val gd0 ((o_pickF (v := .bool false) rfl hb42 rfl) _) rfl ?_
          refine WL_val gd0 ((o_move (v := .bool false) rfl) _) rfl ?_
          refine WL_skip (gdN (b := false) 65 rfl rfl rfl) rfl ?_
          refine WL_skip (gdN (b := false) 65 rfl rfl rfl) rfl ?_
          refine WL_val gd0 ((o_pickF (v := .bool false) rfl rfl rfl) _) rfl ?_
          refine WL_val gd0 ((o_move (v := .bool false) rfl) _) rfl ?_
          refine WL_skip (gdN (b := false) 69 rfl rfl rfl) rfl ?_
          refine WL_skip (gdN (b := false) 69 rfl rfl rfl) rfl ?_
          refine WL_val gd0 ((o_pickF (v := .bool false) rfl rfl rfl) _) rfl ?_
          refine WL_val gd0 ((o_move (v := .bool false) rfl) _) rfl ?_
          refine WL_skip (gdN (b := false) 73 rfl rfl rfl) rfl ?_
          refine WL_skip (gdN (b := false) 73 rfl rfl rfl) rfl ?_
          refine WL_val gd0 ((o_pickF (v := .bool false) rfl rfl rfl) _) rfl ?_
          refine WL_val gd0 ((o_move (v := .bool false) rfl) _) rfl ?_
          refine WL_skip (gdN (b := false) 77 rfl rfl rfl) rfl ?_
          refine WL_skip (gdN (b := false) 77 rfl rfl rfl) rfl ?_
          refine WL_val gd0 ((o_pickF (v := .bool false) rfl rfl rfl) _) rfl ?_
          refine WL_val gd0 ((o_move (v := .bool false) rfl) _) rfl ?_
          refine WL_skip (gdN (b := false) 81 rfl rfl rfl) rfl ?_
          refine WL_skip (gdN (b := false) 81 rfl rfl rfl) rfl ?_
          refine WL_val gd0 ((o_pickF (v := .bool false) rfl rfl rfl) _) rfl ?_
          refine WL_val gd0 ((o_assign (v := .bool false) rfl) _) rfl ?_
          refine WL_nil ?_
          refine nrm ?_
          refine WC_ret ?_
          refine rtE ?_
          exact gv1 rfl rfl h
      · rw [if_neg (of_decide_eq_false hb39)] at h
        refine WL_skip (gdN (b := (decide (r27 = 0))) 53 rfl rfl hb39) rfl ?_
        refine WL_skip (gdN (b := (decide (r27 = 0))) 53 rfl rfl hb39) rfl ?_
        refine WL_skip (gdN (b := (decide (r27 = 0))) 53 rfl rfl hb39) rfl ?_
        refine WL_val gd0 ((o_pickF (v := .bool false) rfl hb39 rfl) _) rfl ?_
        refine WL_val gd0 ((o_move (v := .bool false) rfl) _) rfl ?_
        refine WL_skip (gdN (b := false) 58 rfl rfl rfl) rfl ?_
        refine WL_skip (gdN (b := false) 58 rfl rfl rfl) rfl ?_
        refine WL_skip (gdN (b := false) 58 rfl rfl rfl) rfl ?_
        refine WL_skip (gdN (b := false) 58 rfl rfl rfl) rfl ?_
        refine WL_skip (gdN (b := false) 58 rfl rfl rfl) rfl ?_
        refine WL_val gd0 ((o_pickF (v := .bool false) rfl rfl rfl) _) rfl ?_
        refine WL_val gd0 ((o_move (v := .bool false) rfl) _) rfl ?_
        refine WL_skip (gdN (b := false) 65 rfl rfl rfl) rfl ?_
        refine WL_skip (gdN (b := false) 65 rfl rfl rfl) rfl ?_
        refine WL_val gd0 ((o_pickF (v := .bool false) rfl rfl rfl) _) rfl ?_
        refine WL_val gd0 ((o_move (v := .bool false) rfl) _) rfl ?_
        refine WL_skip (gdN (b := false) 69 rfl rfl rfl) rfl ?_
        refine WL_skip (gdN (b := false) 69 rfl rfl rfl) rfl ?_
        refine WL_val gd0 ((o_pickF (v := .bool false) rfl rfl rfl) _) rfl ?_
        refine WL_val gd0 ((o_move (v := .bool false) rfl) _) rfl ?_
        refine WL_skip (gdN (b := false) 73 rfl rfl rfl) rfl ?_
        refine WL_skip (gdN (b := false) 73 rfl rfl rfl) rfl ?_
        refine WL_val gd0 ((o_pickF (v := .bool false) rfl rfl rfl) _) rfl ?_
        refine WL_val gd0 ((o_move (v := .bool false) rfl) _) rfl ?_
        refine WL_skip (gdN (b := false) 77 rfl rfl rfl) rfl ?_
        refine WL_skip (gdN (b := false) 77 rfl rfl rfl) rfl ?_
        refine WL_val gd0 ((o_pickF (v := .bool false) rfl rfl rfl) _) rfl ?_
        refine WL_val gd0 ((o_move (v := .bool false) rfl) _) rfl ?_
        refine WL_skip (gdN (b := false) 81 rfl rfl rfl) rfl ?_
        refine WL_skip (gdN (b := false) 81 rfl rfl rfl) rfl ?_
        refine WL_val gd0 ((o_pickF (v := .bool false) rfl rfl rfl) _) rfl ?_
        refine WL_val gd0 ((o_assign (v := .bool false) rfl) _) rfl ?_
        refine WL_nil ?_
        refine nrm ?_
        refine WC_ret ?_
        refine rtE ?_
        exact gv1 rfl rfl h
    · rw [if_neg (of_decide_eq_false hb38)] at h
      refine WL_skip (gdN (b := (decide (r16 = 0))) 49 rfl rfl hb38) rfl ?_
      refine WL_skip (gdN (b := (decide (r16 = 0))) 49 rfl rfl hb38) rfl ?_
      refine WL_val gd0 ((o_pickF (v := .bool false) rfl hb38 rfl) _) rfl ?_
      refine WL_val gd0 ((o_move (v := .bool false) rfl) _) rfl ?_
      refine WL_skip (gdN (b := false) 53 rfl rfl rfl) rfl ?_
      refine WL_skip (gdN (b := false) 53 rfl rfl rfl) rfl ?_
      refine WL_skip (gdN (b := false) 53 rfl rfl rfl) rfl ?_
      refine WL_val gd0 ((o_pickF (v := .bool false) rfl rfl rfl) _) rfl ?_
      refine WL_val gd0 ((o_move (v := .bool false) rfl) _) rfl ?_
      refine WL_skip (gdN (b := false) 58 rfl rfl rfl) rfl ?_
      refine WL_skip (gdN (b := false) 58 rfl rfl rfl) rfl ?_
      refine WL_skip (gdN (b := false) 58 rfl rfl rfl) rfl ?_
      refine WL_skip (gdN (b := false) 58 rfl rfl rfl) rfl ?_
      refine WL_skip (gdN (b := false) 58 rfl rfl rfl) rfl ?_
      refine WL_val gd0 ((o_pickF (v := .bool false) rfl rfl rfl) _) rfl ?_
      refine WL_val gd0 ((o_move (v := .bool false) rfl) _) rfl ?_
      refine WL_skip (gdN (b := false) 65 rfl rfl rfl) rfl ?_
      refine WL_skip (gdN (b := false) 65 rfl rfl rfl) rfl ?_
      refine WL_val gd0 ((o_pickF (v := .bool false) rfl rfl rfl) _) rfl ?_
      refine WL_val gd0 ((o_move (v := .bool false) rfl) _) rfl ?_
      refine WL_skip (gdN (b := false) 69 rfl rfl rfl) rfl ?_
      refine WL_skip (gdN (b := false) 69 rfl rfl rfl) rfl ?_
      refine WL_val gd0 ((o_pickF (v := .bool false) rfl rfl rfl) _) rfl ?_
      refine WL_val gd0 ((o_move (v := .bool false) rfl) _) rfl ?_
      refine WL_skip (gdN (b := false) 73 rfl rfl rfl) rfl ?_
      refine WL_skip (gdN (b := false) 73 rfl rfl rfl) rfl ?_
      refine WL_val gd0 ((o_pickF (v := .bool false) rfl rfl rfl) _) rfl ?_
      refine WL_val gd0 ((o_move (v := .bool false) rfl) _) rfl ?_
      refine WL_skip (gdN (b := false) 77 rfl rfl rfl) rfl ?_
      refine WL_skip (gdN (b := false) 77 rfl rfl rfl) rfl ?_
      refine WL_val gd0 ((o_pickF (v := .bool false) rfl rfl rfl) _) rfl ?_
      refine WL_val gd0 ((o_move (v := .bool false) rfl) _) rfl ?_
      refine WL_skip (gdN (b := false) 81 rfl rfl rfl) rfl ?_
      refine WL_skip (gdN (b := false) 81 rfl rfl rfl) rfl ?_
      refine WL_val gd0 ((o_pickF (v := .bool false) rfl rfl rfl) _) rfl ?_
      refine WL_val gd0 ((o_assign (v := .bool false) rfl) _) rfl ?_
      refine WL_nil ?_
      refine nrm ?_
      refine WC_ret ?_
      refine rtE ?_
      exact gv1 rfl rfl h

def F10_b2 (r_n17 : Nat) (r_a16 : Option Addr) (r50 : Option Addr) (out_a53 : Option Addr) (out_n54 : Nat) (out_c55 : Nat) (t59 : Int) (w60 : World) (nx60 : Option Addr → Nat → Nat → Int → World → Prop) (k : Value → World → Prop) : Prop :=
  if t59 < (r_n17 : Int) then
  ∃ (p65 : Addr), r_a16 = some p65 ∧ (0 : Int) ≤ t59 ∧ t59 < (r_n17 : Int) ∧ ∃ (x67 x68 : Int) (x69 : Bool) (x70 : Int), Cells w60 (p65.add (t59.toNat * 4)) 0 [.int .i64 x67, .int .i64 x68, .bool x69, .int .i64 x70] ∧ New w60 43 [.int .i64 0, .int .i64 0, .bool false, .int .i64 0] (fun p72 w73 => PutAll w73 p72 [.int .i64 x67, .int .i64 x68, .bool x69, .int .i64 x70] (fun w74 => ∃ (x76 : Int), w74.drew.cell? p72 = some (.int .i64 x76) ∧ ∃ (x78 x79 : Int) (x80 : Bool) (x81 : Int), Cells w74.drew p72 0 [.int .i64 x78, .int .i64 x79, .bool x80, .int .i64 x81] ∧ ∃ (x83 : Int), w74.drew.cell? (p72.add 1) = some (.int .i64 x83) ∧ Does Try.prog 28 #[.pointer r50, .int .i64 x83] w74.drew (fun v w85 => ∃ (x86 : Int), v = .int .u64 x86 ∧ w85.cell? p72 = some (.int .i64 x76) ∧ Cells w85 p72 0 [.int .i64 x78, .int .i64 x79, .bool x80, .int .i64 x81] ∧ Does Try.prog 27 #[.agg #[.int .i64 x78, .int .i64 x79, .bool x80, .int .i64 x81], .int .u64 x86] w85 (fun v w89 => ∃ (x90 : Int), v = .int .i64 x90 ∧ w89.cell? p72 = some (.int .i64 x76) ∧ New w89 40 [.int .i64 x76, .int .i64 x90] (fun p92 w93 => ∃ (b_a94 : Option Addr) (b_n95 b_c96 : Nat) (w97 : World), (Builtin.append_ #[26, 26] 26 #[.slice out_a53 out_n54 out_c55, .slice (some p92) 1 1]).run Try.prog w93 = .ok (.slice b_a94 b_n95 b_c96) w97 ∧ nx60 b_a94 b_n95 b_c96 (IntKind.i64.wrap (t59 + 1)) w97)))))
else
  Does Try.prog 29 #[.pointer r50] w60 (fun v w99 => ∃ (x100 : Int), v = .int .i64 x100 ∧ Does Try.prog 28 #[.pointer r50, .int .i64 x100] w99 (fun v w101 => ∃ (x102 : Int), v = .int .u64 x102 ∧ if x102 ≠ 0 then
    k (.tuple #[.slice none 0 0, .int .i64 4]) w101
  else
    k (.tuple #[.slice out_a53 out_n54 out_c55, .int .i64 0]) w101))
def F10_b1 (r_n17 : Nat) (r_a16 : Option Addr) (b_n8 : Nat) (b_a7 : Option Addr) (b_c9 : Nat) (width24 : Int) (t28 : Int) (w29 : World) (nx29 : Int → Int → World → Prop) (k : Value → World → Prop) : Prop :=
  if t28 < (r_n17 : Int) then
  ∃ (p34 : Addr), r_a16 = some p34 ∧ (0 : Int) ≤ t28 ∧ t28 < (r_n17 : Int) ∧ ∃ (x36 x37 : Int) (x38 : Bool) (x39 : Int), Cells w29 (p34.add (t28.toNat * 4)) 0 [.int .i64 x36, .int .i64 x37, .bool x38, .int .i64 x39] ∧ New w29 43 [.int .i64 0, .int .i64 0, .bool false, .int .i64 0] (fun p41 w42 => PutAll w42 p41 [.int .i64 x36, .int .i64 x37, .bool x38, .int .i64 x39] (fun w43 => ∃ (x45 : Int), w43.cell? (p41.add 1) = some (.int .i64 x45) ∧ nx29 (IntKind.i64.wrap (width24 + x45)) (IntKind.i64.wrap (t28 + 1)) w43))
else
  if (b_n8 : Int) < (IntKind.i64.wrap (Int.tdiv (IntKind.i64.wrap (width24 + 7)) 8)) then
    k (.tuple #[.slice none 0 0, .int .i64 3]) w29
  else
    if (IntKind.i64.wrap (Int.tdiv (IntKind.i64.wrap (width24 + 7)) 8)) < (b_n8 : Int) then
      k (.tuple #[.slice none 0 0, .int .i64 6]) w29
    else
      Does Try.prog 26 #[.slice b_a7 b_n8 b_c9] w29 (fun v w49 => ∃ (r50 : Option Addr), v = .pointer r50 ∧ LoopP (fun (s : Option Addr × Nat × Nat × Int) w' nx' => F10_b2 r_n17 r_a16 r50 (s.1) (s.2.1) (s.2.2.1) (s.2.2.2) w' (fun x0 x1 x2 x3 w => nx' (x0, x1, x2, x3) w) k) (none, 0, 0, 0) w49)
/-- spacecraft params.Unpack -/
def F10 (l_a1 : Option Addr) (l_n2 : Nat) (l_c3 : Nat) (ids_a4 : Option Addr) (ids_n5 : Nat) (ids_c6 : Nat) (b_a7 : Option Addr) (b_n8 : Nat) (b_c9 : Nat) (w10 : World) (k : Value → World → Prop) : Prop :=
  Does Try.prog 13 #[.slice l_a1 l_n2 l_c3] w10 (fun v w11 => ∃ (r12 : Option Addr) (r13 : Int), v = .tuple #[.pointer r12, .int .i64 r13] ∧ if r13 ≠ 0 then
  k (.tuple #[.slice none 0 0, .int .i64 r13]) w11
else
  Does Try.prog 25 #[.pointer r12, .slice ids_a4 ids_n5 ids_c6] w11 (fun v w15 => ∃ (r_a16 : Option Addr) (r_n17 r_c18 : Nat) (r19 : Int), v = .tuple #[.slice r_a16 r_n17 r_c18, .int .i64 r19] ∧ if r19 ≠ 0 then
    k (.tuple #[.slice none 0 0, .int .i64 r19]) w15
  else
    LoopP (fun (s : Int × Int) w' nx' => F10_b1 r_n17 r_a16 b_n8 b_a7 b_c9 (s.1) (s.2) w' (fun x0 x1 w => nx' (x0, x1) w) k) (0, 0) w15))
set_option maxRecDepth 100000 in
set_option maxHeartbeats 2000000 in
theorem w10 (l_a1 : Option Addr) (l_n2 : Nat) (l_c3 : Nat) (ids_a4 : Option Addr) (ids_n5 : Nat) (ids_c6 : Nat) (b_a7 : Option Addr) (b_n8 : Nat) (b_c9 : Nat) (w10 : World) (k : Value → World → Prop) (h : F10 l_a1 l_n2 l_c3 ids_a4 ids_n5 ids_c6 b_a7 b_n8 b_c9 w10 k) : Does Try.prog 10 #[.slice l_a1 l_n2 l_c3, .slice ids_a4 ids_n5 ids_c6, .slice b_a7 b_n8 b_c9] w10 k := by
  refine enter 87 Try.func10 rfl rfl rfl ?_
  intro ρ hρ
  have e0 := hρ 0 _ rfl
  have e1 := hρ 1 _ rfl
  have e2 := hρ 2 _ rfl
  unfold F10 at h
  refine WC_seq ?_
  refine WC_region ?_
  refine WL_val gd0 ((o_assign (v := .slice none 0 0) rfl) _) rfl ?_
  refine WL_val gd0 ((o_assign (v := .int .i64 0) rfl) _) rfl ?_
  refine WL_nil ?_
  refine nrm ?_
  refine WC_seq ?_
  refine WC_region ?_
  refine WL_val gd0 ((o_move (v := .slice l_a1 l_n2 l_c3) (by exact e0)) _) rfl ?_
  refine WL_call gd0 (o_call Try.call13 (argCons rfl argNil) _) rfl (h.mono ?_)
  rintro _ w11 ⟨r12, r13, rfl, h⟩
  refine WL_val gd0 ((o_move (v := .tuple #[.pointer r12, .int .i64 r13]) rfl) _) rfl ?_
  refine WL_val gd0 ((o_extract (vs := [.pointer r12, .int .i64 r13]) (r := .pointer r12) rfl rfl) _) rfl ?_
  refine WL_val gd0 ((o_extract (vs := [.pointer r12, .int .i64 r13]) (r := .int .i64 r13) rfl rfl) _) rfl ?_
  refine WL_val gd0 ((o_assign (v := .pointer r12) rfl) _) rfl ?_
  refine WL_val gd0 ((o_assign (v := .int .i64 r13) rfl) _) rfl ?_
  refine WL_nil ?_
  refine nrm ?_
  refine WC_seq ?_
  refine WC_seq ?_
  refine WC_region ?_
  refine WL_val gd0 ((o_move (v := .int .i64 r13) rfl) _) rfl ?_
  refine WL_val gd0 ((o_neq rfl rfl) _) rfl ?_
  refine WL_nil ?_
  refine nrm ?_
  refine WC_cond (t := (decide (r13 ≠ 0))) rfl (fun hb14 => ?_) (fun hb14 => ?_)
  · rw [if_pos (of_decide_eq_true hb14)] at h
    refine WC_seq ?_
    refine WC_region ?_
    refine WL_val gd0 ((o_move (v := .int .i64 r13) rfl) _) rfl ?_
    refine WL_val gd0 ((o_assign (v := .slice none 0 0) rfl) _) rfl ?_
    refine WL_val gd0 ((o_assign (v := .int .i64 r13) rfl) _) rfl ?_
    refine WL_nil ?_
    refine nrm ?_
    refine WC_ret ?_
    refine rtT ?_
    refine rtE ?_
    exact gv2 rfl rfl rfl h
  · rw [if_neg (of_decide_eq_false hb14)] at h
    refine WC_skip ?_
    refine nrm ?_
    refine WC_seq ?_
    refine WC_region ?_
    refine WL_val gd0 ((o_move (v := .pointer r12) rfl) _) rfl ?_
    refine WL_val gd0 ((o_move (v := .slice ids_a4 ids_n5 ids_c6) (by exact e1)) _) rfl ?_
    refine WL_call gd0 (o_call Try.call25 (argCons rfl (argCons rfl argNil)) _) rfl (h.mono ?_)
    rintro _ w15 ⟨r_a16, r_n17, r_c18, r19, rfl, h⟩
    refine WL_val gd0 ((o_move (v := .tuple #[.slice r_a16 r_n17 r_c18, .int .i64 r19]) rfl) _) rfl ?_
    refine WL_val gd0 ((o_extract (vs := [.slice r_a16 r_n17 r_c18, .int .i64 r19]) (r := .slice r_a16 r_n17 r_c18) rfl rfl) _) rfl ?_
    refine WL_val gd0 ((o_extract (vs := [.slice r_a16 r_n17 r_c18, .int .i64 r19]) (r := .int .i64 r19) rfl rfl) _) rfl ?_
    refine WL_val gd0 ((o_assign (v := .slice r_a16 r_n17 r_c18) rfl) _) rfl ?_
    refine WL_val gd0 ((o_assign (v := .int .i64 r19) rfl) _) rfl ?_
    refine WL_nil ?_
    refine nrm ?_
    refine WC_seq ?_
    refine WC_seq ?_
    refine WC_region ?_
    refine WL_val gd0 ((o_move (v := .int .i64 r19) rfl) _) rfl ?_
    refine WL_val gd0 ((o_neq rfl rfl) _) rfl ?_
    refine WL_nil ?_
    refine nrm ?_
    refine WC_cond (t := (decide (r19 ≠ 0))) rfl (fun hb20 => ?_) (fun hb20 => ?_)
    · rw [if_pos (of_decide_eq_true hb20)] at h
      refine WC_seq ?_
      refine WC_region ?_
      refine WL_val gd0 ((o_move (v := .int .i64 r19) rfl) _) rfl ?_
      refine WL_val gd0 ((o_assign (v := .slice none 0 0) rfl) _) rfl ?_
      refine WL_val gd0 ((o_assign (v := .int .i64 r19) rfl) _) rfl ?_
      refine WL_nil ?_
      refine nrm ?_
      refine WC_ret ?_
      refine rtT ?_
      refine rtE ?_
      exact gv2 rfl rfl rfl h
    · rw [if_neg (of_decide_eq_false hb20)] at h
      refine WC_skip ?_
      refine nrm ?_
      refine WC_seq ?_
      refine WC_region ?_
      refine WL_val gd0 ((o_assign (v := .int .i64 0) rfl) _) rfl ?_
      refine WL_nil ?_
      refine nrm ?_
      refine WC_seq ?_
      refine WC_seq ?_
      refine WC_region ?_
      refine WL_val gd0 ((o_move (v := .slice r_a16 r_n17 r_c18) rfl) _) rfl ?_
      refine WL_val gd0 ((o_len Try.underlying22 rfl) _) rfl ?_
      refine WL_val gd0 ((o_move (v := .int .i64 0) rfl) _) rfl ?_
      refine WL_nil ?_
      refine nrm ?_
      refine WC_block ?_
      obtain ⟨J29, ⟨n29, h0⟩, hr29⟩ := h
      refine WC_loop (fun n ρ w' => ∃ (width24 t28 : Int), ρ 11 = .int .i64 width24 ∧ ρ 38 = .int .i64 t28 ∧ ρ 2 = .slice b_a7 b_n8 b_c9 ∧ ρ 10 = .slice r_a16 r_n17 r_c18 ∧ ρ 36 = .slice r_a16 r_n17 r_c18 ∧ ρ 37 = .int .i64 (r_n17 : Int) ∧ J29 n (width24, t28) w') ⟨n29, _, _, rfl, rfl, e2, rfl, rfl, rfl, h0⟩ ?_
      rintro n29 ρ w29 ⟨width24, t28, e11_23, e38_27, e2_21, e10_22, e36_25, e37_26, h⟩
      have h : F10_b1 r_n17 r_a16 b_n8 b_a7 b_c9 width24 t28 w29 (fun x0 x1 w => ∃ m, m < n29 ∧ J29 m (x0, x1) w) k := hr29 n29 (width24, t28) w29 h
      unfold F10_b1 at h
      refine WC_seq ?_
      refine WC_region ?_
      refine WL_val gd0 ((o_lss (by exact e38_27) (by exact e37_26)) _) rfl ?_
      refine WL_nil ?_
      refine nrm ?_
      refine WC_seq ?_
      refine WC_cond (t := (decide (t28 < (r_n17 : Int)))) rfl (fun hb31 => ?_) (fun hb31 => ?_)
      · rw [if_pos (of_decide_eq_true hb31)] at h
        refine WC_skip ?_
        refine nrm ?_
        refine WC_seq ?_
        refine WC_block ?_
        refine WC_seq ?_
        refine WC_region ?_
        obtain ⟨p34, q35, h⟩ := h
        obtain ⟨l32, u33, h⟩ := h
        refine WL_val gd0 ((o_indexAddr Try.underlying22 Try.sizeOf43 (by exact (Eq.trans e36_25 (congrArg (fun z => Value.slice z r_n17 r_c18) q35))) (by exact e38_27) l32 u33) _) rfl ?_
        obtain ⟨x36, x37, x38, x39, hc40, h⟩ := h
        refine WL_val gd0 (o_loadAgg (vs := [.int .i64 x36, .int .i64 x37, .bool x38, .int .i64 x39]) Try.isAgg43 Try.sizeOf43 rfl hc40) rfl ?_
        have h := New.out h
        refine WL_val gd0 (o_alloc (z := .agg #[.int .i64 0, .int .i64 0, .bool false, .int .i64 0]) (cs := [.int .i64 0, .int .i64 0, .bool false, .int .i64 0]) Try.zeroValue43 rfl) rfl ?_
        generalize hp41 : fresh w29 = p41 at h ⊢
        generalize hw42 : push w29 43 [.int .i64 0, .int .i64 0, .bool false, .int .i64 0] = w42 at h ⊢
        try dsimp only at h
        obtain ⟨c44, h⟩ := h
        refine WL_act gd0 (o_storeAgg (vs := [.int .i64 x36, .int .i64 x37, .bool x38, .int .i64 x39]) Try.sizeOf43 rfl rfl rfl c44) ?_
        generalize hw43 : setAll w42 p41 0 [.int .i64 x36, .int .i64 x37, .bool x38, .int .i64 x39] = w43 at h ⊢
        try dsimp only at h
        refine WL_nil ?_
        refine nrm ?_
        refine WC_region ?_
        refine WL_val gd0 ((o_move (v := .int .i64 width24) (by exact e11_23)) _) rfl ?_
        refine WL_val gd0 ((o_fieldAddr 1 Try.underlying43 rfl Try.sizeOf3 rfl rfl rfl) _) rfl ?_
        obtain ⟨x45, hc46, h⟩ := h
        refine WL_val gd0 (o_load Try.isAgg3 rfl hc46) rfl ?_
        refine WL_val gd0 ((o_add rfl rfl) _) rfl ?_
        refine WL_val gd0 ((o_assign (v := .int .i64 (IntKind.i64.wrap (width24 + x45))) rfl) _) rfl ?_
        refine WL_nil ?_
        refine nrmB ?_
        refine nrm ?_
        refine WC_region ?_
        refine WL_val gd0 ((o_add (by exact e38_27) rfl) _) rfl ?_
        refine WL_val gd0 ((o_move (v := .int .i64 (IntKind.i64.wrap (t28 + 1))) rfl) _) rfl ?_
        refine WL_nil ?_
        refine nrm ?_
        obtain ⟨m30, hm30, h⟩ := h
        exact ⟨m30, hm30, _, _, rfl, rfl, e2_21, e10_22, e36_25, e37_26, h⟩
      · rw [if_neg (of_decide_eq_false hb31)] at h
        refine WC_exit ?_
        refine exT ?_
        refine exT ?_
        refine exB ?_
        refine nrm ?_
        refine WC_seq ?_
        refine WC_seq ?_
        refine WC_region ?_
        refine WL_val gd0 ((o_move (v := .int .i64 width24) (by exact e11_23)) _) rfl ?_
        refine WL_val gd0 ((o_add rfl rfl) _) rfl ?_
        refine WL_val gd0 ((fun w => o_quo rfl rfl w (by decide)) _) rfl ?_
        refine WL_val gd0 ((o_assign (v := .int .i64 (IntKind.i64.wrap (Int.tdiv (IntKind.i64.wrap (width24 + 7)) 8))) rfl) _) rfl ?_
        refine WL_nil ?_
        refine nrm ?_
        refine WC_block ?_
        refine WC_seq ?_
        refine WC_region ?_
        refine WL_val gd0 ((o_move (v := .slice b_a7 b_n8 b_c9) (by exact e2_21)) _) rfl ?_
        refine WL_val gd0 ((o_len Try.underlying24 rfl) _) rfl ?_
        refine WL_val gd0 ((o_move (v := .int .i64 (IntKind.i64.wrap (Int.tdiv (IntKind.i64.wrap (width24 + 7)) 8))) rfl) _) rfl ?_
        refine WL_val gd0 ((o_lss rfl rfl) _) rfl ?_
        refine WL_val gd0 ((o_assign (v := .bool (decide ((b_n8 : Int) < (IntKind.i64.wrap (Int.tdiv (IntKind.i64.wrap (width24 + 7)) 8))))) rfl) _) rfl ?_
        refine WL_nil ?_
        refine nrm ?_
        refine WC_cond (t := (decide ((b_n8 : Int) < (IntKind.i64.wrap (Int.tdiv (IntKind.i64.wrap (width24 + 7)) 8))))) rfl (fun hb47 => ?_) (fun hb47 => ?_)
        · rw [if_pos (of_decide_eq_true hb47)] at h
          refine WC_seq ?_
          refine WC_region ?_
          refine WL_val gd0 ((o_assign (v := .slice none 0 0) rfl) _) rfl ?_
          refine WL_val gd0 ((o_assign (v := .int .i64 3) rfl) _) rfl ?_
          refine WL_nil ?_
          refine nrm ?_
          refine WC_ret ?_
          refine rtB ?_
          refine rtT ?_
          refine rtE ?_
          exact gv2 rfl rfl rfl h
        · rw [if_neg (of_decide_eq_false hb47)] at h
          refine WC_seq ?_
          refine WC_region ?_
          refine WL_val gd0 ((o_move (v := .slice b_a7 b_n8 b_c9) (by exact e2_21)) _) rfl ?_
          refine WL_val gd0 ((o_len Try.underlying24 rfl) _) rfl ?_
          refine WL_val gd0 ((o_move (v := .int .i64 (IntKind.i64.wrap (Int.tdiv (IntKind.i64.wrap (width24 + 7)) 8))) rfl) _) rfl ?_
          refine WL_val gd0 ((o_gtr rfl rfl) _) rfl ?_
          refine WL_val gd0 ((o_assign (v := .bool (decide ((IntKind.i64.wrap (Int.tdiv (IntKind.i64.wrap (width24 + 7)) 8)) < (b_n8 : Int)))) rfl) _) rfl ?_
          refine WL_nil ?_
          refine nrm ?_
          refine WC_cond (t := (decide ((IntKind.i64.wrap (Int.tdiv (IntKind.i64.wrap (width24 + 7)) 8)) < (b_n8 : Int)))) rfl (fun hb48 => ?_) (fun hb48 => ?_)
          · rw [if_pos (of_decide_eq_true hb48)] at h
            refine WC_seq ?_
            refine WC_region ?_
            refine WL_val gd0 ((o_assign (v := .slice none 0 0) rfl) _) rfl ?_
            refine WL_val gd0 ((o_assign (v := .int .i64 6) rfl) _) rfl ?_
            refine WL_nil ?_
            refine nrm ?_
            refine WC_ret ?_
            refine rtB ?_
            refine rtT ?_
            refine rtE ?_
            exact gv2 rfl rfl rfl h
          · rw [if_neg (of_decide_eq_false hb48)] at h
            refine WC_skip ?_
            refine nrmB ?_
            refine nrm ?_
            refine WC_seq ?_
            refine WC_region ?_
            refine WL_val gd0 ((o_move (v := .slice b_a7 b_n8 b_c9) (by exact e2_21)) _) rfl ?_
            refine WL_call gd0 (o_call Try.call26 (argCons rfl argNil) _) rfl (h.mono ?_)
            rintro _ w49 ⟨r50, rfl, h⟩
            refine WL_val gd0 ((o_assign (v := .pointer r50) rfl) _) rfl ?_
            refine WL_nil ?_
            refine nrm ?_
            refine WC_seq ?_
            refine WC_region ?_
            refine WL_val gd0 ((o_assign (v := .slice none 0 0) rfl) _) rfl ?_
            refine WL_nil ?_
            refine nrm ?_
            refine WC_seq ?_
            refine WC_seq ?_
            refine WC_region ?_
            refine WL_val gd0 ((o_move (v := .slice r_a16 r_n17 r_c18) (by exact e10_22)) _) rfl ?_
            refine WL_val gd0 ((o_len Try.underlying22 rfl) _) rfl ?_
            refine WL_val gd0 ((o_move (v := .int .i64 0) rfl) _) rfl ?_
            refine WL_nil ?_
            refine nrm ?_
            refine WC_block ?_
            obtain ⟨J60, ⟨n60, h0⟩, hr60⟩ := h
            refine WC_loop (fun n ρ w' => ∃ (out_a53 : Option Addr) (out_n54 out_c55 : Nat) (t59 : Int), ρ 16 = .slice out_a53 out_n54 out_c55 ∧ ρ 64 = .int .i64 t59 ∧ ρ 15 = .pointer r50 ∧ ρ 62 = .slice r_a16 r_n17 r_c18 ∧ ρ 63 = .int .i64 (r_n17 : Int) ∧ J60 n (out_a53, out_n54, out_c55, t59) w') ⟨n60, _, _, _, _, rfl, rfl, rfl, rfl, rfl, h0⟩ ?_
            rintro n60 ρ w60 ⟨out_a53, out_n54, out_c55, t59, e16_52, e64_58, e15_51, e62_56, e63_57, h⟩
            have h : F10_b2 r_n17 r_a16 r50 out_a53 out_n54 out_c55 t59 w60 (fun x0 x1 x2 x3 w => ∃ m, m < n60 ∧ J60 m (x0, x1, x2, x3) w) k := hr60 n60 (out_a53, out_n54, out_c55, t59) w60 h
            unfold F10_b2 at h
            refine WC_seq ?_
            refine WC_region ?_
            refine WL_val gd0 ((o_lss (by exact e64_58) (by exact e63_57)) _) rfl ?_
            refine WL_nil ?_
            refine nrm ?_
            refine WC_seq ?_
            refine WC_cond (t := (decide (t59 < (r_n17 : Int)))) rfl (fun hb62 => ?_) (fun hb62 => ?_)
            · rw [if_pos (of_decide_eq_true hb62)] at h
              refine WC_skip ?_
              refine nrm ?_
              refine WC_seq ?_
              refine WC_block ?_
              refine WC_seq ?_
              refine WC_region ?_
              obtain ⟨p65, q66, h⟩ := h
              obtain ⟨l63, u64, h⟩ := h
              refine WL_val gd0 ((o_indexAddr Try.underlying22 Try.sizeOf43 (by exact (Eq.trans e62_56 (congrArg (fun z => Value.slice z r_n17 r_c18) q66))) (by exact e64_58) l63 u64) _) rfl ?_
              obtain ⟨x67, x68, x69, x70, hc71, h⟩ := h
              refine WL_val gd0 (o_loadAgg (vs := [.int .i64 x67, .int .i64 x68, .bool x69, .int .i64 x70]) Try.isAgg43 Try.sizeOf43 rfl hc71) rfl ?_
              have h := New.out h
              refine WL_val gd0 (o_alloc (z := .agg #[.int .i64 0, .int .i64 0, .bool false, .int .i64 0]) (cs := [.int .i64 0, .int .i64 0, .bool false, .int .i64 0]) Try.zeroValue43 rfl) rfl ?_
              generalize hp72 : fresh w60 = p72 at h ⊢
              generalize hw73 : push w60 43 [.int .i64 0, .int .i64 0, .bool false, .int .i64 0] = w73 at h ⊢
              try dsimp only at h
              obtain ⟨c75, h⟩ := h
              refine WL_act gd0 (o_storeAgg (vs := [.int .i64 x67, .int .i64 x68, .bool x69, .int .i64 x70]) Try.sizeOf43 rfl rfl rfl c75) ?_
              generalize hw74 : setAll w73 p72 0 [.int .i64 x67, .int .i64 x68, .bool x69, .int .i64 x70] = w74 at h ⊢
              try dsimp only at h
              refine WL_nil ?_
              refine nrm ?_
              refine WC_draws [7, 8, 10, 11] (.look 0 (.look 1 (.look 2 (.look 3 (.look 4 (.look 5 (.look 6 (.act 7 (.act 8 (.look 9 (.act 10 (.act 11 (.look 12 .nil))))))))))))) Try.mixed (by kernel_rfl) ?_
              refine WQ_val rfl gd0 (o_move (v := .slice out_a53 out_n54 out_c55) (by exact e16_52)) rfl ?_
              refine WQ_val rfl gd0 (o_fieldAddr0 Try.underlying43 rfl Try.sizeOf3 rfl rfl rfl) rfl ?_
              obtain ⟨x76, hc77, h⟩ := h
              refine WQ_look (fun w => w.cell? p72 = some (.int .i64 x76)) rfl gd0 (fun w hc => (o_load Try.isAgg3 rfl hc)) hc77 rfl ?_
              obtain ⟨x78, x79, x80, x81, hc82, h⟩ := h
              refine WQ_look (fun w => Cells w p72 0 [.int .i64 x78, .int .i64 x79, .bool x80, .int .i64 x81]) rfl gd0 (fun w hc => (o_loadAgg (vs := [.int .i64 x78, .int .i64 x79, .bool x80, .int .i64 x81]) Try.isAgg43 Try.sizeOf43 rfl hc)) hc82 rfl ?_
              refine WQ_val rfl gd0 (o_move (v := .pointer r50) (by exact e15_51)) rfl ?_
              refine WQ_val rfl gd0 (o_fieldAddr 1 Try.underlying43 rfl Try.sizeOf3 rfl rfl rfl) rfl ?_
              obtain ⟨x83, hc84, h⟩ := h
              refine WQ_look (fun w => w.cell? (p72.add 1) = some (.int .i64 x83)) rfl gd0 (fun w hc => (o_load Try.isAgg3 rfl hc)) hc84 rfl ?_
              refine WQ_call rfl gd0 (o_call Try.call28 (argCons rfl (argCons rfl argNil)) _) rfl (h.mono ?_)
              rintro _ w85 ⟨x86, rfl, hh87, hh88, h⟩
              refine ⟨⟨⟨⟨trivial, fun _ => hh87⟩, fun _ => hh88⟩, depT (by kernel_rfl)⟩, ?_⟩
              refine WQ_call rfl gd0 (o_call Try.call27 (argCons rfl (argCons rfl argNil)) _) rfl (h.mono ?_)
              rintro _ w89 ⟨x90, rfl, hh91, h⟩
              refine ⟨⟨⟨⟨trivial, fun _ => hh91⟩, depT (by kernel_rfl)⟩, depT (by kernel_rfl)⟩, ?_⟩
              refine WQ_val rfl gd0 (o_build (ps := [(0, .int .i64 x76), (1, .int .i64 x90)]) (v := .agg #[.int .i64 x76, .int .i64 x90]) (partCons rfl (partCons rfl partNil)) (fun w => by kernel_rfl)) rfl ?_
              have h := New.out h
              refine WQ_act rfl gd0 (o_buildSlice (e := 40) (ps := [(0, .agg #[.int .i64 x76, .int .i64 x90])]) (cs := [.int .i64 x76, .int .i64 x90]) (partCons rfl partNil) (fun w => by kernel_rfl)) rfl (by exact ⟨⟨⟨trivial, depT (by kernel_rfl)⟩, depT (by kernel_rfl)⟩, depT (by kernel_rfl)⟩) ?_
              generalize hp92 : fresh w89 = p92 at h ⊢
              generalize hw93 : push w89 40 [.int .i64 x76, .int .i64 x90] = w93 at h ⊢
              try dsimp only at h
              obtain ⟨b_a94, b_n95, b_c96, w97, r98, h⟩ := h
              refine WQ_act rfl gd0 (o_append rfl rfl r98) rfl (by exact ⟨⟨⟨trivial, depT (by kernel_rfl)⟩, depT (by kernel_rfl)⟩, depT (by kernel_rfl)⟩) ?_
              refine WQ_val rfl gd0 (o_assign (v := .slice b_a94 b_n95 b_c96) rfl) rfl ?_
              refine WQ_nil ?_
              refine nrmB ?_
              refine nrm ?_
              refine WC_region ?_
              refine WL_val gd0 ((o_add (by exact e64_58) rfl) _) rfl ?_
              refine WL_val gd0 ((o_move (v := .int .i64 (IntKind.i64.wrap (t59 + 1))) rfl) _) rfl ?_
              refine WL_nil ?_
              refine nrm ?_
              obtain ⟨m61, hm61, h⟩ := h
              exact ⟨m61, hm61, _, _, _, _, rfl, rfl, e15_51, e62_56, e63_57, h⟩
            · rw [if_neg (of_decide_eq_false hb62)] at h
              refine WC_exit ?_
              refine exT ?_
              refine exT ?_
              refine exB ?_
              refine nrm ?_
              refine WC_seq ?_
              refine WC_seq ?_
              refine WC_region ?_
              refine WL_val gd0 ((o_move (v := .pointer r50) (by exact e15_51)) _) rfl ?_
              refine WL_val gd0 ((o_move (v := .pointer r50) (by exact e15_51)) _) rfl ?_
              refine WL_call gd0 (o_call Try.call29 (argCons rfl argNil) _) rfl (h.mono ?_)
              rintro _ w99 ⟨x100, rfl, h⟩
              refine WL_call gd0 (o_call Try.call28 (argCons rfl (argCons rfl argNil)) _) rfl (h.mono ?_)
              rintro _ w101 ⟨x102, rfl, h⟩
              refine WL_val gd0 ((o_neq rfl rfl) _) rfl ?_
              refine WL_nil ?_
              refine nrm ?_
              refine WC_cond (t := (decide (x102 ≠ 0))) rfl (fun hb103 => ?_) (fun hb103 => ?_)
              · rw [if_pos (of_decide_eq_true hb103)] at h
                refine WC_seq ?_
                refine WC_region ?_
                refine WL_val gd0 ((o_assign (v := .slice none 0 0) rfl) _) rfl ?_
                refine WL_val gd0 ((o_assign (v := .int .i64 4) rfl) _) rfl ?_
                refine WL_nil ?_
                refine nrm ?_
                refine WC_ret ?_
                refine rtT ?_
                refine rtE ?_
                exact gv2 rfl rfl rfl h
              · rw [if_neg (of_decide_eq_false hb103)] at h
                refine WC_skip ?_
                refine nrm ?_
                refine WC_seq ?_
                refine WC_region ?_
                refine WL_val gd0 ((o_move (v := .slice out_a53 out_n54 out_c55) (by exact e16_52)) _) rfl ?_
                refine WL_val gd0 ((o_assign (v := .slice out_a53 out_n54 out_c55) rfl) _) rfl ?_
                refine WL_val gd0 ((o_assign (v := .int .i64 0) rfl) _) rfl ?_
                refine WL_nil ?_
                refine nrm ?_
                refine WC_ret ?_
                refine rtE ?_
                exact gv2 rfl rfl rfl h


end Go.Proofs.Ytcdnljibefpchaa
