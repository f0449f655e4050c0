/-
  The forms of the functions, and their walks: written by a program of this claim (gen.py) off the elaborated translation.
-/
import Derived.Test.YtnaomgfdcadncaaProg
import Derived.Test.YtnaomgfdcadncaaBase
import Derived.KernelRfl
import Derived.Test.YtnaomgfdcadncaaFormsP0
namespace Go.Proofs.Ytnaomgfdcadncaa
open Go Go.Sh Go.Proofs
set_option linter.unusedVariables false
def F19_j1 (n2 : Int) (u1 : Option Addr) (w6 : World) (k : Value → World → Prop) : Prop :=
  Does Try.prog 29 #[.int .i64 n2, .int .i64 1, .int .i64 8] w6 (fun v w7 => ∃ (x8 : Int), v = .int .i64 x8 ∧ ∃ (p9 : Addr), u1 = some p9 ∧ Put w7 (p9.add 1) (.bool true) (fun w11 => Put w11 (p9.add 3) (.int .i64 x8) (fun w13 => k (.tuple #[]) w13)))
/-- (*spacecraft unpacker.Unpacker).count -/
def F19 (u1 : Option Addr) (n2 : Int) (w3 : World) (k : Value → World → Prop) : Prop :=
  ∃ (p15 : Addr), u1 = some p15 ∧ ∃ (x17 : Bool), w3.cell? (p15.add 1) = some (.bool x17) ∧ if x17 = true then
  ∃ (x20 : Int), w3.cell? (p15.add 3) = some (.int .i64 x20) ∧ Does Try.prog 28 #[.int .i64 x20, .int .i64 n2, .int .i64 8] w3 (fun v w22 => ∃ (d23 : Int), v = .int .i64 d23 ∧ ∃ (x24 : Int), w22.cell? (p15.add 4) = some (.int .i64 x24) ∧ Put w22 (p15.add 4) (.int .i64 (IntKind.i64.wrap (x24 + d23))) (fun w26 => ∃ (x28 : Bool), w26.cell? (p15.add 2) = some (.bool x28) ∧ if x28 = true then
    Put w26 (p15.add 2) (.bool (decide (d23 = 0))) (fun w31 => F19_j1 n2 u1 w31 k)
  else
    Put w26 (p15.add 2) (.bool false) (fun w33 => F19_j1 n2 u1 w33 k)))
else
  F19_j1 n2 u1 w3 k
set_option maxRecDepth 100000 in
set_option maxHeartbeats 2000000 in
theorem w19 (u1 : Option Addr) (n2 : Int) (w3 : World) (k : Value → World → Prop) (h : F19 u1 n2 w3 k) : Does Try.prog 19 #[.pointer u1, .int .i64 n2] w3 k := by
  refine enter 42 Try.func19 rfl rfl rfl ?_
  intro ρ hρ
  have e0 := hρ 0 _ rfl
  have e1 := hρ 1 _ rfl
  unfold F19 at h
  refine WC_cut (fun ρ w' => ρ 0 = .pointer u1 ∧ ρ 1 = .int .i64 n2 ∧ F19_j1 n2 u1 w' k) ?_ ?_
  · refine WC_seq ?_
    refine WC_region ?_
    refine WL_val gd0 ((o_move (v := .pointer u1) (by exact e0)) _) rfl ?_
    obtain ⟨p15, q16, h⟩ := h
    refine WL_val gd0 ((o_nilCheck (by exact (congrArg Value.pointer q16))) _) rfl ?_
    refine WL_val gd0 ((o_fieldAddr 1 Try.underlying45 rfl Try.sizeOf4 rfl rfl rfl) _) rfl ?_
    obtain ⟨x17, hc18, h⟩ := h
    refine WL_val gd0 (o_load Try.isAgg4 rfl hc18) rfl ?_
    refine WL_nil ?_
    refine nrm ?_
    refine WC_cond (t := x17) rfl (fun hb19 => ?_) (fun hb19 => ?_)
    · rw [if_pos hb19] at h
      refine WC_seq ?_
      refine WC_region ?_
      refine WL_val gd0 ((o_move (v := .pointer u1) (by exact e0)) _) rfl ?_
      refine WL_val gd0 ((o_nilCheck (by exact (congrArg Value.pointer q16))) _) rfl ?_
      refine WL_val gd0 ((o_fieldAddr 3 Try.underlying45 rfl Try.sizeOf3 rfl rfl rfl) _) rfl ?_
      obtain ⟨x20, hc21, h⟩ := h
      refine WL_val gd0 (o_load Try.isAgg3 rfl hc21) rfl ?_
      refine WL_val gd0 ((o_move (v := .int .i64 n2) (by exact e1)) _) rfl ?_
      refine WL_call gd0 (o_call Try.call28 (argCons rfl (argCons rfl (argCons rfl argNil))) _) rfl (h.mono ?_)
      rintro _ w22 ⟨d23, rfl, h⟩
      refine WL_val gd0 ((o_assign (v := .int .i64 d23) rfl) _) rfl ?_
      refine WL_nil ?_
      refine nrm ?_
      refine WC_seq ?_
      refine WC_region ?_
      refine WL_val gd0 ((o_move (v := .pointer u1) (by exact e0)) _) rfl ?_
      refine WL_val gd0 ((o_nilCheck (by exact (congrArg Value.pointer q16))) _) rfl ?_
      refine WL_val gd0 ((o_fieldAddr 4 Try.underlying45 rfl Try.sizeOf3 rfl rfl rfl) _) rfl ?_
      obtain ⟨x24, hc25, h⟩ := h
      refine WL_val gd0 (o_load Try.isAgg3 rfl hc25) rfl ?_
      refine WL_val gd0 ((o_move (v := .int .i64 d23) rfl) _) rfl ?_
      refine WL_val gd0 ((o_add rfl rfl) _) rfl ?_
      refine WL_val gd0 ((o_nilCheck (by exact (congrArg Value.pointer q16))) _) rfl ?_
      refine WL_val gd0 ((o_fieldAddr 4 Try.underlying45 rfl Try.sizeOf3 rfl rfl rfl) _) rfl ?_
      obtain ⟨c27, h⟩ := h
      refine WL_act gd0 (o_store (v := .int .i64 (IntKind.i64.wrap (x24 + d23))) Try.sizeOf3 rfl rfl rfl c27) ?_
      generalize hw26 : World.setCell w22 (p15.add 4) (.int .i64 (IntKind.i64.wrap (x24 + d23))) = w26 at h ⊢
      try dsimp only at h
      refine WL_nil ?_
      refine nrm ?_
      refine WC_region ?_
      refine WL_val gd0 ((o_move (v := .pointer u1) (by exact e0)) _) rfl ?_
      refine WL_val gd0 ((o_move (v := .pointer u1) (by exact e0)) _) rfl ?_
      refine WL_val gd0 ((o_nilCheck (by exact (congrArg Value.pointer q16))) _) rfl ?_
      refine WL_val gd0 ((o_fieldAddr 2 Try.underlying45 rfl Try.sizeOf4 rfl rfl rfl) _) rfl ?_
      obtain ⟨x28, hc29, h⟩ := h
      refine WL_val gd0 (o_load Try.isAgg4 rfl hc29) rfl ?_
      refine WL_val gd0 ((o_move (v := .bool x28) rfl) _) rfl ?_
      refine bsplit x28 (fun hb30 => ?_) (fun hb30 => ?_)
      · rw [if_pos hb30] at h
        refine WL_val (gdY (b := x28) 28 rfl rfl hb30) ((o_move (v := .int .i64 d23) rfl) _) rfl ?_
        refine WL_val (gdY (b := x28) 28 rfl rfl hb30) ((o_eql rfl rfl) _) rfl ?_
        refine WL_val gd0 ((o_pickT (v := .bool (decide (d23 = 0))) rfl hb30 rfl) _) rfl ?_
        refine WL_val gd0 ((o_nilCheck (by exact (congrArg Value.pointer q16))) _) rfl ?_
        refine WL_val gd0 ((o_fieldAddr 2 Try.underlying45 rfl Try.sizeOf4 rfl rfl rfl) _) rfl ?_
        obtain ⟨c32, h⟩ := h
        refine WL_act gd0 (o_store (v := .bool (decide (d23 = 0))) Try.sizeOf4 rfl rfl rfl c32) ?_
        generalize hw31 : World.setCell w26 (p15.add 2) (.bool (decide (d23 = 0))) = w31 at h ⊢
        try dsimp only at h
        refine WL_nil ?_
        refine nrm ?_
        exact ⟨e0, e1, h⟩
      · rw [if_neg (neT hb30)] at h
        refine WL_skip (gdN (b := x28) 28 rfl rfl hb30) rfl ?_
        refine WL_skip (gdN (b := x28) 28 rfl rfl hb30) rfl ?_
        refine WL_val gd0 ((o_pickF (v := .bool false) rfl hb30 rfl) _) rfl ?_
        refine WL_val gd0 ((o_nilCheck (by exact (congrArg Value.pointer q16))) _) rfl ?_
        refine WL_val gd0 ((o_fieldAddr 2 Try.underlying45 rfl Try.sizeOf4 rfl rfl rfl) _) rfl ?_
        obtain ⟨c34, h⟩ := h
        refine WL_act gd0 (o_store (v := .bool false) Try.sizeOf4 rfl rfl rfl c34) ?_
        generalize hw33 : World.setCell w26 (p15.add 2) (.bool false) = w33 at h ⊢
        try dsimp only at h
        refine WL_nil ?_
        refine nrm ?_
        exact ⟨e0, e1, h⟩
    · rw [if_neg (neT hb19)] at h
      refine WC_skip ?_
      refine nrm ?_
      exact ⟨e0, e1, h⟩
  · rintro ρ w6 ⟨e0_4, e1_5, h⟩
    unfold F19_j1 at h
    refine WC_region ?_
    refine WL_val gd0 ((o_move (v := .pointer u1) (by exact e0_4)) _) rfl ?_
    refine WL_val gd0 ((o_move (v := .pointer u1) (by exact e0_4)) _) rfl ?_
    refine WL_val gd0 ((o_move (v := .int .i64 n2) (by exact e1_5)) _) rfl ?_
    refine WL_call gd0 (o_call Try.call29 (argCons rfl (argCons rfl (argCons rfl argNil))) _) rfl (h.mono ?_)
    rintro _ w7 ⟨x8, rfl, h⟩
    obtain ⟨p9, q10, h⟩ := h
    refine WL_val gd0 ((o_nilCheck (by exact (congrArg Value.pointer q10))) _) rfl ?_
    refine WL_val gd0 ((o_fieldAddr 1 Try.underlying45 rfl Try.sizeOf4 rfl rfl rfl) _) rfl ?_
    obtain ⟨c12, h⟩ := h
    refine WL_act gd0 (o_store (v := .bool true) Try.sizeOf4 rfl rfl rfl c12) ?_
    generalize hw11 : World.setCell w7 (p9.add 1) (.bool true) = w11 at h ⊢
    try dsimp only at h
    refine WL_val gd0 ((o_nilCheck (by exact (congrArg Value.pointer q10))) _) rfl ?_
    refine WL_val gd0 ((o_fieldAddr 3 Try.underlying45 rfl Try.sizeOf3 rfl rfl rfl) _) rfl ?_
    obtain ⟨c14, h⟩ := h
    refine WL_act gd0 (o_store (v := .int .i64 x8) Try.sizeOf3 rfl rfl rfl c14) ?_
    generalize hw13 : World.setCell w11 (p9.add 3) (.int .i64 x8) = w13 at h ⊢
    try dsimp only at h
    refine WL_nil ?_
    refine ndE ?_
    exact gv0 rfl h

/-- spacecraft unpacker.fitting -/
def F20 (rest_a1 : Option Addr) (rest_n2 : Nat) (rest_c3 : Nat) (data_a4 : Option Addr) (data_n5 : Nat) (data_c6 : Nat) (w7 : World) (k : Value → World → Prop) : Prop :=
  if (data_n5 : Int) = 0 then
  k (.tuple #[.int .i64 2047, .bool true]) w7
else
  if (rest_n2 : Int) = 0 then
    k (.tuple #[.int .i64 0, .bool true]) w7
  else
    if (IntKind.i64.wrap ((rest_n2 : Int) + (data_n5 : Int))) < 6 then
      k (.tuple #[.int .i64 2047, .bool true]) w7
    else
      (0 : Int) ≤ min (data_n5 : Int) 6 ∧ min (data_n5 : Int) 6 ≤ (data_c6 : Int) ∧ New w7 29 [.slice rest_a1 rest_n2 rest_c3, .slice data_a4 ((min (data_n5 : Int) 6).toNat) data_c6] (fun p13 w14 => Does Try.prog 21 #[.slice (some p13) 2 2] w14 (fun v w15 => ∃ (x_a16 : Option Addr) (x_n17 x_c18 : Nat), v = .slice x_a16 x_n17 x_c18 ∧ Does Try.prog 30 #[.slice x_a16 x_n17 x_c18] w15 (fun v w19 => ∃ (r20 : Int) (r21 : Bool), v = .tuple #[.int .i64 r20, .bool r21] ∧ if (!r21) = true then
        k (.tuple #[.int .i64 0, .bool false]) w19
      else
        if (IntKind.i64.wrap (r20 - (rest_n2 : Int))) < (data_n5 : Int) then
          k (.tuple #[.int .i64 (IntKind.i64.wrap (r20 - (rest_n2 : Int))), .bool true]) w19
        else
          k (.tuple #[.int .i64 2047, .bool true]) w19)))
set_option maxRecDepth 100000 in
set_option maxHeartbeats 2000000 in
theorem w20 (rest_a1 : Option Addr) (rest_n2 : Nat) (rest_c3 : Nat) (data_a4 : Option Addr) (data_n5 : Nat) (data_c6 : Nat) (w7 : World) (k : Value → World → Prop) (h : F20 rest_a1 rest_n2 rest_c3 data_a4 data_n5 data_c6 w7 k) : Does Try.prog 20 #[.slice rest_a1 rest_n2 rest_c3, .slice data_a4 data_n5 data_c6] w7 k := by
  refine enter 47 Try.func20 rfl rfl rfl ?_
  intro ρ hρ
  have e0 := hρ 0 _ rfl
  have e1 := hρ 1 _ rfl
  unfold F20 at h
  refine WC_seq ?_
  refine WC_region ?_
  refine WL_val gd0 ((o_assign (v := .int .i64 0) rfl) _) rfl ?_
  refine WL_val gd0 ((o_assign (v := .bool false) rfl) _) rfl ?_
  refine WL_nil ?_
  refine nrm ?_
  refine WC_seq ?_
  refine WC_block ?_
  refine WC_seq ?_
  refine WC_region ?_
  refine WL_val gd0 ((o_move (v := .slice data_a4 data_n5 data_c6) (by exact e1)) _) rfl ?_
  refine WL_val gd0 ((o_len Try.underlying29 rfl) _) rfl ?_
  refine WL_val gd0 ((o_eql rfl rfl) _) rfl ?_
  refine WL_val gd0 ((o_assign (v := .bool (decide ((data_n5 : Int) = 0))) rfl) _) rfl ?_
  refine WL_nil ?_
  refine nrm ?_
  refine WC_cond (t := (decide ((data_n5 : Int) = 0))) rfl (fun hb8 => ?_) (fun hb8 => ?_)
  · rw [if_pos (of_decide_eq_true hb8)] at h
    refine WC_seq ?_
    refine WC_region ?_
    refine WL_val gd0 ((o_assign (v := .int .i64 2047) rfl) _) rfl ?_
    refine WL_val gd0 ((o_assign (v := .bool true) rfl) _) rfl ?_
    refine WL_nil ?_
    refine nrm ?_
    refine WC_ret ?_
    refine rtB ?_
    refine rtT ?_
    refine rtE ?_
    exact gv2 rfl rfl rfl h
  · rw [if_neg (of_decide_eq_false hb8)] at h
    refine WC_seq ?_
    refine WC_region ?_
    refine WL_val gd0 ((o_move (v := .slice rest_a1 rest_n2 rest_c3) (by exact e0)) _) rfl ?_
    refine WL_val gd0 ((o_len Try.underlying29 rfl) _) rfl ?_
    refine WL_val gd0 ((o_eql rfl rfl) _) rfl ?_
    refine WL_val gd0 ((o_assign (v := .bool (decide ((rest_n2 : Int) = 0))) rfl) _) rfl ?_
    refine WL_nil ?_
    refine nrm ?_
    refine WC_cond (t := (decide ((rest_n2 : Int) = 0))) rfl (fun hb9 => ?_) (fun hb9 => ?_)
    · rw [if_pos (of_decide_eq_true hb9)] at h
      refine WC_seq ?_
      refine WC_region ?_
      refine WL_val gd0 ((o_assign (v := .int .i64 0) rfl) _) rfl ?_
      refine WL_val gd0 ((o_assign (v := .bool true) rfl) _) rfl ?_
      refine WL_nil ?_
      refine nrm ?_
      refine WC_ret ?_
      refine rtB ?_
      refine rtT ?_
      refine rtE ?_
      exact gv2 rfl rfl rfl h
    · rw [if_neg (of_decide_eq_false hb9)] at h
      refine WC_seq ?_
      refine WC_region ?_
      refine WL_val gd0 ((o_move (v := .slice rest_a1 rest_n2 rest_c3) (by exact e0)) _) rfl ?_
      refine WL_val gd0 ((o_len Try.underlying29 rfl) _) rfl ?_
      refine WL_val gd0 ((o_move (v := .slice data_a4 data_n5 data_c6) (by exact e1)) _) rfl ?_
      refine WL_val gd0 ((o_len Try.underlying29 rfl) _) rfl ?_
      refine WL_val gd0 ((o_add rfl rfl) _) rfl ?_
      refine WL_val gd0 ((o_lss rfl rfl) _) rfl ?_
      refine WL_val gd0 ((o_assign (v := .bool (decide ((IntKind.i64.wrap ((rest_n2 : Int) + (data_n5 : Int))) < 6))) rfl) _) rfl ?_
      refine WL_nil ?_
      refine nrm ?_
      refine WC_cond (t := (decide ((IntKind.i64.wrap ((rest_n2 : Int) + (data_n5 : Int))) < 6))) rfl (fun hb10 => ?_) (fun hb10 => ?_)
      · rw [if_pos (of_decide_eq_true hb10)] at h
        refine WC_seq ?_
        refine WC_region ?_
        refine WL_val gd0 ((o_assign (v := .int .i64 2047) rfl) _) rfl ?_
        refine WL_val gd0 ((o_assign (v := .bool true) rfl) _) rfl ?_
        refine WL_nil ?_
        refine nrm ?_
        refine WC_ret ?_
        refine rtB ?_
        refine rtT ?_
        refine rtE ?_
        exact gv2 rfl rfl rfl h
      · rw [if_neg (of_decide_eq_false hb10)] at h
        refine WC_skip ?_
        refine nrmB ?_
        refine nrm ?_
        refine WC_seq ?_
        refine WC_region ?_
        refine WL_val gd0 ((o_move (v := .slice rest_a1 rest_n2 rest_c3) (by exact e0)) _) rfl ?_
        refine WL_val gd0 ((o_move (v := .slice data_a4 data_n5 data_c6) (by exact e1)) _) rfl ?_
        refine WL_val gd0 ((o_move (v := .slice data_a4 data_n5 data_c6) (by exact e1)) _) rfl ?_
        refine WL_val gd0 ((o_len Try.underlying29 rfl) _) rfl ?_
        refine WL_val gd0 ((o_min2 rfl rfl) _) rfl ?_
        obtain ⟨c11, c12, h⟩ := h
        refine WL_val gd0 ((o_sliceH Try.underlying29 Try.sizeOf5 rfl rfl c11 c12) _) rfl ?_
        have h := New.out h
        refine WL_val gd0 (o_buildSlice (e := 29) (ps := [(0, .slice rest_a1 rest_n2 rest_c3), (1, .slice data_a4 ((min (data_n5 : Int) 6).toNat) data_c6)]) (cs := [.slice rest_a1 rest_n2 rest_c3, .slice data_a4 ((min (data_n5 : Int) 6).toNat) data_c6]) (partCons rfl (partCons rfl partNil)) (fun w => by kernel_rfl)) rfl ?_
        generalize hp13 : fresh w7 = p13 at h ⊢
        generalize hw14 : push w7 29 [.slice rest_a1 rest_n2 rest_c3, .slice data_a4 ((min (data_n5 : Int) 6).toNat) data_c6] = w14 at h ⊢
        try dsimp only at h
        refine WL_call gd0 (o_call Try.call21 (argCons rfl argNil) _) rfl (h.mono ?_)
        rintro _ w15 ⟨x_a16, x_n17, x_c18, rfl, h⟩
        refine WL_call gd0 (o_call Try.call30 (argCons rfl argNil) _) rfl (h.mono ?_)
        rintro _ w19 ⟨r20, r21, rfl, h⟩
        refine WL_val gd0 ((o_move (v := .tuple #[.int .i64 r20, .bool r21]) rfl) _) rfl ?_
        refine WL_val gd0 ((o_extract (vs := [.int .i64 r20, .bool r21]) (r := .int .i64 r20) rfl rfl) _) rfl ?_
        refine WL_val gd0 ((o_extract (vs := [.int .i64 r20, .bool r21]) (r := .bool r21) rfl rfl) _) rfl ?_
        refine WL_val gd0 ((o_assign (v := .int .i64 r20) rfl) _) rfl ?_
        refine WL_val gd0 ((o_assign (v := .bool r21) rfl) _) rfl ?_
        refine WL_nil ?_
        refine nrm ?_
        refine WC_seq ?_
        refine WC_seq ?_
        refine WC_region ?_
        refine WL_val gd0 ((o_move (v := .bool r21) rfl) _) rfl ?_
        refine WL_val gd0 ((o_not rfl) _) rfl ?_
        refine WL_nil ?_
        refine nrm ?_
        refine WC_cond (t := (!r21)) rfl (fun hb22 => ?_) (fun hb22 => ?_)
        · rw [if_pos hb22] at h
          refine WC_seq ?_
          refine WC_region ?_
          refine WL_val gd0 ((o_assign (v := .int .i64 0) rfl) _) rfl ?_
          refine WL_val gd0 ((o_assign (v := .bool false) rfl) _) rfl ?_
          refine WL_nil ?_
          refine nrm ?_
          refine WC_ret ?_
          refine rtT ?_
          refine rtE ?_
          exact gv2 rfl rfl rfl h
        · rw [if_neg (neT hb22)] at h
          refine WC_skip ?_
          refine nrm ?_
          refine WC_seq ?_
          refine WC_seq ?_
          refine WC_region ?_
          refine WL_val gd0 ((o_move (v := .int .i64 r20) rfl) _) rfl ?_
          refine WL_val gd0 ((o_move (v := .slice rest_a1 rest_n2 rest_c3) (by exact e0)) _) rfl ?_
          refine WL_val gd0 ((o_len Try.underlying29 rfl) _) rfl ?_
          refine WL_val gd0 ((o_sub rfl rfl) _) rfl ?_
          refine WL_val gd0 ((o_assign (v := .int .i64 (IntKind.i64.wrap (r20 - (rest_n2 : Int)))) rfl) _) rfl ?_
          refine WL_nil ?_
          refine nrm ?_
          refine WC_seq ?_
          refine WC_region ?_
          refine WL_val gd0 ((o_move (v := .int .i64 (IntKind.i64.wrap (r20 - (rest_n2 : Int)))) rfl) _) rfl ?_
          refine WL_val gd0 ((o_move (v := .slice data_a4 data_n5 data_c6) (by exact e1)) _) rfl ?_
          refine WL_val gd0 ((o_len Try.underlying29 rfl) _) rfl ?_
          refine WL_val gd0 ((o_lss rfl rfl) _) rfl ?_
          refine WL_nil ?_
          refine nrm ?_
          refine WC_cond (t := (decide ((IntKind.i64.wrap (r20 - (rest_n2 : Int))) < (data_n5 : Int)))) rfl (fun hb23 => ?_) (fun hb23 => ?_)
          · rw [if_pos (of_decide_eq_true hb23)] at h
            refine WC_seq ?_
            refine WC_region ?_
            refine WL_val gd0 ((o_move (v := .int .i64 (IntKind.i64.wrap (r20 - (rest_n2 : Int)))) rfl) _) rfl ?_
            refine WL_val gd0 ((o_assign (v := .int .i64 (IntKind.i64.wrap (r20 - (rest_n2 : Int)))) rfl) _) rfl ?_
            refine WL_val gd0 ((o_assign (v := .bool true) rfl) _) rfl ?_
            refine WL_nil ?_
            refine nrm ?_
            refine WC_ret ?_
            refine rtT ?_
            refine rtE ?_
            exact gv2 rfl rfl rfl h
          · rw [if_neg (of_decide_eq_false hb23)] at h
            refine WC_skip ?_
            refine nrm ?_
            refine WC_seq ?_
            refine WC_region ?_
            refine WL_val gd0 ((o_assign (v := .int .i64 2047) rfl) _) rfl ?_
            refine WL_val gd0 ((o_assign (v := .bool true) rfl) _) rfl ?_
            refine WL_nil ?_
            refine nrm ?_
            refine WC_ret ?_
            refine rtE ?_
            exact gv2 rfl rfl rfl h

def F21_b2 (slices_n2 : Nat) (slices_a1 : Option Addr) (newslice_a29 : Option Addr) (newslice_n30 : Nat) (newslice_c31 : Nat) (t35 : Int) (w36 : World) (nx36 : Option Addr → Nat → Nat → Int → World → Prop) (k : Value → World → Prop) : Prop :=
  if t35 < (slices_n2 : Int) then
  ∃ (p41 : Addr), slices_a1 = some p41 ∧ (0 : Int) ≤ t35 ∧ t35 < (slices_n2 : Int) ∧ ∃ (s_a43 : Option Addr) (s_n44 s_c45 : Nat), w36.cell? (p41.add t35.toNat) = some (.slice s_a43 s_n44 s_c45) ∧ ∃ (b_a47 : Option Addr) (b_n48 b_c49 : Nat) (w50 : World), (Builtin.append_ #[29, 29] 29 #[.slice newslice_a29 newslice_n30 newslice_c31, .slice s_a43 s_n44 s_c45]).run Try.prog w36 = .ok (.slice b_a47 b_n48 b_c49) w50 ∧ nx36 b_a47 b_n48 b_c49 (IntKind.i64.wrap (t35 + 1)) w50
else
  k (.slice newslice_a29 newslice_n30 newslice_c31) w36
def F21_b1 (slices_n2 : Nat) (slices_a1 : Option Addr) (size7 : Int) (t11 : Int) (w12 : World) (nx12 : Int → Int → World → Prop) (k : Value → World → Prop) : Prop :=
  if t11 < (slices_n2 : Int) then
  ∃ (p17 : Addr), slices_a1 = some p17 ∧ (0 : Int) ≤ t11 ∧ t11 < (slices_n2 : Int) ∧ ∃ (s_a19 : Option Addr) (s_n20 s_c21 : Nat), w12.cell? (p17.add t11.toNat) = some (.slice s_a19 s_n20 s_c21) ∧ if (IntKind.i64.wrap (size7 + (s_n20 : Int))) < 0 then
    False
  else
    nx12 (IntKind.i64.wrap (size7 + (s_n20 : Int))) (IntKind.i64.wrap (t11 + 1)) w12
else
  Does Try.prog 31 #[.slice none 0 0, .int .i64 size7] w12 (fun v w24 => ∃ (newslice_a25 : Option Addr) (newslice_n26 newslice_c27 : Nat), v = .slice newslice_a25 newslice_n26 newslice_c27 ∧ LoopP (fun (s : Option Addr × Nat × Nat × Int) w' nx' => F21_b2 slices_n2 slices_a1 (s.1) (s.2.1) (s.2.2.1) (s.2.2.2) w' (fun x0 x1 x2 x3 w => nx' (x0, x1, x2, x3) w) k) (newslice_a25, newslice_n26, newslice_c27, 0) w24)
/-- slices.Concat   byte,byte  -/
def F21 (slices_a1 : Option Addr) (slices_n2 : Nat) (slices_c3 : Nat) (w4 : World) (k : Value → World → Prop) : Prop :=
  LoopP (fun (s : Int × Int) w' nx' => F21_b1 slices_n2 slices_a1 (s.1) (s.2) w' (fun x0 x1 w => nx' (x0, x1) w) k) (0, 0) w4
set_option maxRecDepth 100000 in
set_option maxHeartbeats 2000000 in
theorem w21 (slices_a1 : Option Addr) (slices_n2 : Nat) (slices_c3 : Nat) (w4 : World) (k : Value → World → Prop) (h : F21 slices_a1 slices_n2 slices_c3 w4 k) : Does Try.prog 21 #[.slice slices_a1 slices_n2 slices_c3] w4 k := by
  refine enter 36 Try.func21 rfl rfl rfl ?_
  intro ρ hρ
  have e0 := hρ 0 _ rfl
  unfold F21 at h
  refine WC_seq ?_
  refine WC_region ?_
  refine WL_val gd0 ((o_assign (v := .slice none 0 0) rfl) _) rfl ?_
  refine WL_nil ?_
  refine nrm ?_
  refine WC_seq ?_
  refine WC_region ?_
  refine WL_val gd0 ((o_assign (v := .int .i64 0) rfl) _) rfl ?_
  refine WL_nil ?_
  refine nrm ?_
  refine WC_seq ?_
  refine WC_seq ?_
  refine WC_region ?_
  refine WL_val gd0 ((o_move (v := .slice slices_a1 slices_n2 slices_c3) (by exact e0)) _) rfl ?_
  refine WL_val gd0 ((o_len Try.underlying28 rfl) _) rfl ?_
  refine WL_val gd0 ((o_move (v := .int .i64 0) rfl) _) rfl ?_
  refine WL_nil ?_
  refine nrm ?_
  refine WC_block ?_
  obtain ⟨J12, ⟨n12, h0⟩, hr12⟩ := h
  refine WC_loop (fun n ρ w' => ∃ (size7 t11 : Int), ρ 3 = .int .i64 size7 ∧ ρ 11 = .int .i64 t11 ∧ ρ 0 = .slice slices_a1 slices_n2 slices_c3 ∧ ρ 9 = .slice slices_a1 slices_n2 slices_c3 ∧ ρ 10 = .int .i64 (slices_n2 : Int) ∧ J12 n (size7, t11) w') ⟨n12, _, _, rfl, rfl, e0, rfl, rfl, h0⟩ ?_
  rintro n12 ρ w12 ⟨size7, t11, e3_6, e11_10, e0_5, e9_8, e10_9, h⟩
  have h : F21_b1 slices_n2 slices_a1 size7 t11 w12 (fun x0 x1 w => ∃ m, m < n12 ∧ J12 m (x0, x1) w) k := hr12 n12 (size7, t11) w12 h
  unfold F21_b1 at h
  refine WC_seq ?_
  refine WC_region ?_
  refine WL_val gd0 ((o_lss (by exact e11_10) (by exact e10_9)) _) rfl ?_
  refine WL_nil ?_
  refine nrm ?_
  refine WC_seq ?_
  refine WC_cond (t := (decide (t11 < (slices_n2 : Int)))) rfl (fun hb14 => ?_) (fun hb14 => ?_)
  · rw [if_pos (of_decide_eq_true hb14)] at h
    refine WC_skip ?_
    refine nrm ?_
    refine WC_seq ?_
    refine WC_block ?_
    refine WC_seq ?_
    refine WC_region ?_
    obtain ⟨p17, q18, h⟩ := h
    obtain ⟨l15, u16, h⟩ := h
    refine WL_val gd0 ((o_indexAddr1 Try.underlying28 Try.sizeOf29 (by exact (Eq.trans e9_8 (congrArg (fun z => Value.slice z slices_n2 slices_c3) q18))) (by exact e11_10) l15 u16) _) rfl ?_
    obtain ⟨s_a19, s_n20, s_c21, hc22, h⟩ := h
    refine WL_val gd0 (o_load Try.isAgg29 rfl hc22) rfl ?_
    refine WL_val gd0 ((o_assign (v := .slice s_a19 s_n20 s_c21) rfl) _) rfl ?_
    refine WL_nil ?_
    refine nrm ?_
    refine WC_seq ?_
    refine WC_region ?_
    refine WL_val gd0 ((o_move (v := .int .i64 size7) (by exact e3_6)) _) rfl ?_
    refine WL_val gd0 ((o_move (v := .slice s_a19 s_n20 s_c21) rfl) _) rfl ?_
    refine WL_val gd0 ((o_len Try.underlying29 rfl) _) rfl ?_
    refine WL_val gd0 ((o_add rfl rfl) _) rfl ?_
    refine WL_val gd0 ((o_assign (v := .int .i64 (IntKind.i64.wrap (size7 + (s_n20 : Int)))) rfl) _) rfl ?_
    refine WL_nil ?_
    refine nrm ?_
    refine WC_seq ?_
    refine WC_region ?_
    refine WL_val gd0 ((o_move (v := .int .i64 (IntKind.i64.wrap (size7 + (s_n20 : Int)))) rfl) _) rfl ?_
    refine WL_val gd0 ((o_lss rfl rfl) _) rfl ?_
    refine WL_nil ?_
    refine nrm ?_
    refine WC_cond (t := (decide ((IntKind.i64.wrap (size7 + (s_n20 : Int))) < 0))) rfl (fun hb23 => ?_) (fun hb23 => ?_)
    · rw [if_pos (of_decide_eq_true hb23)] at h
      refine WC_region ?_
      refine WL_val gd0 ((o_makeInterface (v := .string (ByteArray.mk #[108, 101, 110, 32, 111, 117, 116, 32, 111, 102, 32, 114, 97, 110, 103, 101])) rfl (fun w => by kernel_rfl)) _) rfl ?_
      exact h.elim
    · rw [if_neg (of_decide_eq_false hb23)] at h
      refine WC_skip ?_
      refine nrmB ?_
      refine nrm ?_
      refine WC_region ?_
      refine WL_val gd0 ((o_add (by exact e11_10) rfl) _) rfl ?_
      refine WL_val gd0 ((o_move (v := .int .i64 (IntKind.i64.wrap (t11 + 1))) rfl) _) rfl ?_
      refine WL_nil ?_
      refine nrm ?_
      obtain ⟨m13, hm13, h⟩ := h
      exact ⟨m13, hm13, _, _, rfl, rfl, e0_5, e9_8, e10_9, h⟩
  · rw [if_neg (of_decide_eq_false hb14)] at h
    refine WC_exit ?_
    refine exT ?_
    refine exT ?_
    refine exB ?_
    refine nrm ?_
    refine WC_seq ?_
    refine WC_region ?_
    refine WL_val gd0 ((o_move (v := .int .i64 size7) (by exact e3_6)) _) rfl ?_
    refine WL_call gd0 (o_call Try.call31 (argCons rfl (argCons rfl argNil)) _) rfl (h.mono ?_)
    rintro _ w24 ⟨newslice_a25, newslice_n26, newslice_c27, rfl, h⟩
    refine WL_val gd0 ((o_assign (v := .slice newslice_a25 newslice_n26 newslice_c27) rfl) _) rfl ?_
    refine WL_nil ?_
    refine nrm ?_
    refine WC_seq ?_
    refine WC_seq ?_
    refine WC_region ?_
    refine WL_val gd0 ((o_move (v := .slice slices_a1 slices_n2 slices_c3) (by exact e0_5)) _) rfl ?_
    refine WL_val gd0 ((o_len Try.underlying28 rfl) _) rfl ?_
    refine WL_val gd0 ((o_move (v := .int .i64 0) rfl) _) rfl ?_
    refine WL_nil ?_
    refine nrm ?_
    refine WC_block ?_
    obtain ⟨J36, ⟨n36, h0⟩, hr36⟩ := h
    refine WC_loop (fun n ρ w' => ∃ (newslice_a29 : Option Addr) (newslice_n30 newslice_c31 : Nat) (t35 : Int), ρ 6 = .slice newslice_a29 newslice_n30 newslice_c31 ∧ ρ 27 = .int .i64 t35 ∧ ρ 25 = .slice slices_a1 slices_n2 slices_c3 ∧ ρ 26 = .int .i64 (slices_n2 : Int) ∧ J36 n (newslice_a29, newslice_n30, newslice_c31, t35) w') ⟨n36, _, _, _, _, rfl, rfl, rfl, rfl, h0⟩ ?_
    rintro n36 ρ w36 ⟨newslice_a29, newslice_n30, newslice_c31, t35, e6_28, e27_34, e25_32, e26_33, h⟩
    have h : F21_b2 slices_n2 slices_a1 newslice_a29 newslice_n30 newslice_c31 t35 w36 (fun x0 x1 x2 x3 w => ∃ m, m < n36 ∧ J36 m (x0, x1, x2, x3) w) k := hr36 n36 (newslice_a29, newslice_n30, newslice_c31, t35) w36 h
    unfold F21_b2 at h
    refine WC_seq ?_
    refine WC_region ?_
    refine WL_val gd0 ((o_lss (by exact e27_34) (by exact e26_33)) _) rfl ?_
    refine WL_nil ?_
    refine nrm ?_
    refine WC_seq ?_
    refine WC_cond (t := (decide (t35 < (slices_n2 : Int)))) rfl (fun hb38 => ?_) (fun hb38 => ?_)
    · rw [if_pos (of_decide_eq_true hb38)] at h
      refine WC_skip ?_
      refine nrm ?_
      refine WC_seq ?_
      refine WC_block ?_
      refine WC_seq ?_
      refine WC_region ?_
      obtain ⟨p41, q42, h⟩ := h
      obtain ⟨l39, u40, h⟩ := h
      refine WL_val gd0 ((o_indexAddr1 Try.underlying28 Try.sizeOf29 (by exact (Eq.trans e25_32 (congrArg (fun z => Value.slice z slices_n2 slices_c3) q42))) (by exact e27_34) l39 u40) _) rfl ?_
      obtain ⟨s_a43, s_n44, s_c45, hc46, h⟩ := h
      refine WL_val gd0 (o_load Try.isAgg29 rfl hc46) rfl ?_
      refine WL_val gd0 ((o_assign (v := .slice s_a43 s_n44 s_c45) rfl) _) rfl ?_
      refine WL_nil ?_
      refine nrm ?_
      refine WC_region ?_
      refine WL_val gd0 ((o_move (v := .slice newslice_a29 newslice_n30 newslice_c31) (by exact e6_28)) _) rfl ?_
      refine WL_val gd0 ((o_move (v := .slice s_a43 s_n44 s_c45) rfl) _) rfl ?_
      obtain ⟨b_a47, b_n48, b_c49, w50, r51, h⟩ := h
      refine WL_val gd0 (o_append rfl rfl r51) rfl ?_
      refine WL_val gd0 ((o_assign (v := .slice b_a47 b_n48 b_c49) rfl) _) rfl ?_
      refine WL_nil ?_
      refine nrmB ?_
      refine nrm ?_
      refine WC_region ?_
      refine WL_val gd0 ((o_add (by exact e27_34) rfl) _) rfl ?_
      refine WL_val gd0 ((o_move (v := .int .i64 (IntKind.i64.wrap (t35 + 1))) rfl) _) rfl ?_
      refine WL_nil ?_
      refine nrm ?_
      obtain ⟨m37, hm37, h⟩ := h
      exact ⟨m37, hm37, _, _, _, _, rfl, rfl, e25_32, e26_33, h⟩
    · rw [if_neg (of_decide_eq_false hb38)] at h
      refine WC_exit ?_
      refine exT ?_
      refine exT ?_
      refine exB ?_
      refine nrm ?_
      refine WC_seq ?_
      refine WC_region ?_
      refine WL_val gd0 ((o_move (v := .slice newslice_a29 newslice_n30 newslice_c31) (by exact e6_28)) _) rfl ?_
      refine WL_val gd0 ((o_assign (v := .slice newslice_a29 newslice_n30 newslice_c31) rfl) _) rfl ?_
      refine WL_nil ?_
      refine nrm ?_
      refine WC_ret ?_
      refine rtE ?_
      exact gv1 rfl rfl h

/-- slices.Clone   byte,byte  -/
def F22 (s_a1 : Option Addr) (s_n2 : Nat) (s_c3 : Nat) (w4 : World) (k : Value → World → Prop) : Prop :=
  if (s_a1).isNone = true then
  k (.slice none 0 0) w4
else
  New w4 5 [] (fun p6 w7 => ∃ (b_a8 : Option Addr) (b_n9 b_c10 : Nat) (w11 : World), (Builtin.append_ #[29, 29] 29 #[.slice (some p6) 0 0, .slice s_a1 s_n2 s_c3]).run Try.prog w7 = .ok (.slice b_a8 b_n9 b_c10) w11 ∧ k (.slice b_a8 b_n9 b_c10) w11)
set_option maxRecDepth 100000 in
set_option maxHeartbeats 2000000 in
theorem w22 (s_a1 : Option Addr) (s_n2 : Nat) (s_c3 : Nat) (w4 : World) (k : Value → World → Prop) (h : F22 s_a1 s_n2 s_c3 w4 k) : Does Try.prog 22 #[.slice s_a1 s_n2 s_c3] w4 k := by
  refine enter 8 Try.func22 rfl rfl rfl ?_
  intro ρ hρ
  have e0 := hρ 0 _ rfl
  unfold F22 at h
  refine WC_seq ?_
  refine WC_region ?_
  refine WL_val gd0 ((o_assign (v := .slice none 0 0) rfl) _) rfl ?_
  refine WL_nil ?_
  refine nrm ?_
  refine WC_seq ?_
  refine WC_seq ?_
  refine WC_region ?_
  refine WL_val gd0 ((o_move (v := .slice s_a1 s_n2 s_c3) (by exact e0)) _) rfl ?_
  refine WL_val gd0 ((o_eqlSliceNil Try.underlying29 rfl rfl) _) rfl ?_
  refine WL_nil ?_
  refine nrm ?_
  refine WC_cond (t := ((s_a1).isNone)) rfl (fun hb5 => ?_) (fun hb5 => ?_)
  · rw [if_pos hb5] at h
    refine WC_seq ?_
    refine WC_region ?_
    refine WL_val gd0 ((o_assign (v := .slice none 0 0) rfl) _) rfl ?_
    refine WL_nil ?_
    refine nrm ?_
    refine WC_ret ?_
    refine rtT ?_
    refine rtE ?_
    exact gv1 rfl rfl h
  · rw [if_neg (neT hb5)] at h
    refine WC_skip ?_
    refine nrm ?_
    refine WC_seq ?_
    refine WC_region ?_
    have h := New.out h
    refine WL_val gd0 (o_buildSlice (e := 5) (ps := []) (cs := []) partNil (fun w => by kernel_rfl)) rfl ?_
    generalize hp6 : fresh w4 = p6 at h ⊢
    generalize hw7 : push w4 5 [] = w7 at h ⊢
    try dsimp only at h
    refine WL_val gd0 ((o_move (v := .slice s_a1 s_n2 s_c3) (by exact e0)) _) rfl ?_
    obtain ⟨b_a8, b_n9, b_c10, w11, r12, h⟩ := h
    refine WL_val gd0 (o_append rfl rfl r12) rfl ?_
    refine WL_val gd0 ((o_assign (v := .slice b_a8 b_n9 b_c10) rfl) _) rfl ?_
    refine WL_nil ?_
    refine nrm ?_
    refine WC_ret ?_
    refine rtE ?_
    exact gv1 rfl rfl h

def F23_b1 (u1 : Option Addr) (out_a5 : Option Addr) (out_n6 : Nat) (out_c7 : Nat) (w8 : World) (k : Value → World → Prop) (nx8 : Option Addr → Nat → Nat → World → Prop) : Prop :=
  ∃ (p10 : Addr), u1 = some p10 ∧ ∃ (x_a12 : Option Addr) (x_n13 x_c14 : Nat), w8.cell? (p10.add 5) = some (.slice x_a12 x_n13 x_c14) ∧ if 6 ≤ (x_n13 : Int) then
  ∃ (x_a17 : Option Addr) (x_n18 x_c19 : Nat), w8.cell? (p10.add 5) = some (.slice x_a17 x_n18 x_c19) ∧ Does Try.prog 30 #[.slice x_a17 x_n18 x_c19] w8 (fun v w21 => ∃ (r22 : Int) (r23 : Bool), v = .tuple #[.int .i64 r22, .bool r23] ∧ if (!r23) = true then
    Put w21 (p10.add 5) (.slice none 0 0) (fun w25 => Put w25 (p10.add 2) (.bool false) (fun w27 => k (.slice out_a5 out_n6 out_c7) w27))
  else
    ∃ (x_a29 : Option Addr) (x_n30 x_c31 : Nat), w21.cell? (p10.add 5) = some (.slice x_a29 x_n30 x_c31) ∧ if (x_n30 : Int) < r22 then
      k (.slice out_a5 out_n6 out_c7) w21
    else
      ∃ (x_a34 : Option Addr) (x_n35 x_c36 : Nat), w21.cell? (p10.add 5) = some (.slice x_a34 x_n35 x_c36) ∧ (0 : Int) ≤ r22 ∧ r22 ≤ (x_c36 : Int) ∧ Does Try.prog 22 #[.slice x_a34 r22.toNat x_c36] w21 (fun v w40 => ∃ (p_a41 : Option Addr) (p_n42 p_c43 : Nat), v = .slice p_a41 p_n42 p_c43 ∧ ∃ (x_a44 : Option Addr) (x_n45 x_c46 : Nat), w40.cell? (p10.add 5) = some (.slice x_a44 x_n45 x_c46) ∧ (0 : Int) ≤ r22 ∧ r22 ≤ (x_n45 : Int) ∧ Put w40 (p10.add 5) (.slice (cutA x_a44 x_c46 r22.toNat 1) (x_n45 - r22.toNat) (x_c46 - r22.toNat)) (fun w50 => ∃ (p54 : Addr), p_a41 = some p54 ∧ (0 : Int) ≤ 0 ∧ 0 < (p_n42 : Int) ∧ ∃ (x56 : Int), w50.drew.cell? (p54.add ((0 : Int).toNat)) = some (.int .u8 x56) ∧ (0 : Int) ≤ 1 ∧ 1 < (p_n42 : Int) ∧ ∃ (x60 : Int), w50.drew.cell? (p54.add ((1 : Int).toNat)) = some (.int .u8 x60) ∧ if (bor .i64 (shl .i64 (IntKind.i64.wrap (band .u8 x56 7)) 8) (IntKind.i64.wrap x60)) ≠ 2047 then
        New w50.drew 29 [.slice p_a41 p_n42 p_c43] (fun p63 w64 => ∃ (b_a65 : Option Addr) (b_n66 b_c67 : Nat) (w68 : World), (Builtin.append_ #[28, 28] 28 #[.slice out_a5 out_n6 out_c7, .slice (some p63) 1 1]).run Try.prog w64 = .ok (.slice b_a65 b_n66 b_c67) w68 ∧ nx8 b_a65 b_n66 b_c67 w68)
      else
        nx8 out_a5 out_n6 out_c7 w50.drew)))
else
  k (.slice out_a5 out_n6 out_c7) w8
/-- (*spacecraft unpacker.Unpacker).packets -/
def F23 (u1 : Option Addr) (w2 : World) (k : Value → World → Prop) : Prop :=
  LoopP (fun (s : Option Addr × Nat × Nat) w' nx' => F23_b1 u1 (s.1) (s.2.1) (s.2.2) w' k (fun x0 x1 x2 w => nx' (x0, x1, x2) w)) (none, 0, 0) w2
set_option maxRecDepth 100000 in
set_option maxHeartbeats 2000000 in
theorem w23 (u1 : Option Addr) (w2 : World) (k : Value → World → Prop) (h : F23 u1 w2 k) : Does Try.prog 23 #[.pointer u1] w2 k := by
  refine enter 69 Try.func23 rfl rfl rfl ?_
  intro ρ hρ
  have e0 := hρ 0 _ rfl
  unfold F23 at h
  refine WC_seq ?_
  refine WC_region ?_
  refine WL_val gd0 ((o_assign (v := .slice none 0 0) rfl) _) rfl ?_
  refine WL_nil ?_
  refine nrm ?_
  refine WC_seq ?_
  refine WC_region ?_
  refine WL_val gd0 ((o_assign (v := .slice none 0 0) rfl) _) rfl ?_
  refine WL_nil ?_
  refine nrm ?_
  refine WC_seq ?_
  refine WC_block ?_
  obtain ⟨J8, ⟨n8, h0⟩, hr8⟩ := h
  refine WC_loop (fun n ρ w' => ∃ (out_a5 : Option Addr) (out_n6 out_c7 : Nat), ρ 3 = .slice out_a5 out_n6 out_c7 ∧ ρ 0 = .pointer u1 ∧ J8 n (out_a5, out_n6, out_c7) w') ⟨n8, _, _, _, rfl, e0, h0⟩ ?_
  rintro n8 ρ w8 ⟨out_a5, out_n6, out_c7, e3_4, e0_3, h⟩
  have h : F23_b1 u1 out_a5 out_n6 out_c7 w8 k (fun x0 x1 x2 w => ∃ m, m < n8 ∧ J8 m (x0, x1, x2) w) := hr8 n8 (out_a5, out_n6, out_c7) w8 h
  unfold F23_b1 at h
  refine WC_seq ?_
  refine WC_seq ?_
  refine WC_region ?_
  refine WL_val gd0 ((o_move (v := .pointer u1) (by exact e0_3)) _) rfl ?_
  obtain ⟨p10, q11, h⟩ := h
  refine WL_val gd0 ((o_nilCheck (by exact (congrArg Value.pointer q11))) _) rfl ?_
  refine WL_val gd0 ((o_fieldAddr 5 Try.underlying45 rfl Try.sizeOf29 rfl rfl rfl) _) rfl ?_
  obtain ⟨x_a12, x_n13, x_c14, hc15, h⟩ := h
  refine WL_val gd0 (o_load Try.isAgg29 rfl hc15) rfl ?_
  refine WL_val gd0 ((o_len Try.underlying29 rfl) _) rfl ?_
  refine WL_val gd0 ((o_geq rfl rfl) _) rfl ?_
  refine WL_nil ?_
  refine nrm ?_
  refine WC_cond (t := (decide (6 ≤ (x_n13 : Int)))) rfl (fun hb16 => ?_) (fun hb16 => ?_)
  · rw [if_pos (of_decide_eq_true hb16)] at h
    refine WC_skip ?_
    refine nrm ?_
    refine WC_block ?_
    refine WC_seq ?_
    refine WC_region ?_
    refine WL_val gd0 ((o_move (v := .pointer u1) (by exact e0_3)) _) rfl ?_
    refine WL_val gd0 ((o_nilCheck (by exact (congrArg Value.pointer q11))) _) rfl ?_
    refine WL_val gd0 ((o_fieldAddr 5 Try.underlying45 rfl Try.sizeOf29 rfl rfl rfl) _) rfl ?_
    obtain ⟨x_a17, x_n18, x_c19, hc20, h⟩ := h
    refine WL_val gd0 (o_load Try.isAgg29 rfl hc20) rfl ?_
    refine WL_call gd0 (o_call Try.call30 (argCons rfl argNil) _) rfl (h.mono ?_)
    rintro _ w21 ⟨r22, r23, rfl, h⟩
    refine WL_val gd0 ((o_move (v := .tuple #[.int .i64 r22, .bool r23]) rfl) _) rfl ?_
    refine WL_val gd0 ((o_extract (vs := [.int .i64 r22, .bool r23]) (r := .int .i64 r22) rfl rfl) _) rfl ?_
    refine WL_val gd0 ((o_extract (vs := [.int .i64 r22, .bool r23]) (r := .bool r23) rfl rfl) _) rfl ?_
    refine WL_val gd0 ((o_assign (v := .int .i64 r22) rfl) _) rfl ?_
    refine WL_val gd0 ((o_assign (v := .bool r23) rfl) _) rfl ?_
    refine WL_nil ?_
    refine nrm ?_
    refine WC_seq ?_
    refine WC_seq ?_
    refine WC_region ?_
    refine WL_val gd0 ((o_move (v := .bool r23) rfl) _) rfl ?_
    refine WL_val gd0 ((o_not rfl) _) rfl ?_
    refine WL_nil ?_
    refine nrm ?_
    refine WC_cond (t := (!r23)) rfl (fun hb24 => ?_) (fun hb24 => ?_)
    · rw [if_pos hb24] at h
      refine WC_seq ?_
      refine WC_region ?_
      refine WL_val gd0 ((o_move (v := .pointer u1) (by exact e0_3)) _) rfl ?_
      refine WL_val gd0 ((o_move (v := .pointer u1) (by exact e0_3)) _) rfl ?_
      refine WL_val gd0 ((o_nilCheck (by exact (congrArg Value.pointer q11))) _) rfl ?_
      refine WL_val gd0 ((o_fieldAddr 5 Try.underlying45 rfl Try.sizeOf29 rfl rfl rfl) _) rfl ?_
      obtain ⟨c26, h⟩ := h
      refine WL_act gd0 (o_store (v := .slice none 0 0) Try.sizeOf29 rfl rfl rfl c26) ?_
      generalize hw25 : World.setCell w21 (p10.add 5) (.slice none 0 0) = w25 at h ⊢
      try dsimp only at h
      refine WL_val gd0 ((o_nilCheck (by exact (congrArg Value.pointer q11))) _) rfl ?_
      refine WL_val gd0 ((o_fieldAddr 2 Try.underlying45 rfl Try.sizeOf4 rfl rfl rfl) _) rfl ?_
      obtain ⟨c28, h⟩ := h
      refine WL_act gd0 (o_store (v := .bool false) Try.sizeOf4 rfl rfl rfl c28) ?_
      generalize hw27 : World.setCell w25 (p10.add 2) (.bool false) = w27 at h ⊢
      try dsimp only at h
      refine WL_nil ?_
      refine nrm ?_
      refine WC_exit ?_
      refine exT ?_
      refine exO rfl ?_
      refine exT ?_
      refine exB ?_
      refine nrm ?_
      refine WC_seq ?_
      refine WC_region ?_
      refine WL_val gd0 ((o_move (v := .slice out_a5 out_n6 out_c7) (by exact e3_4)) _) rfl ?_
      refine WL_val gd0 ((o_assign (v := .slice out_a5 out_n6 out_c7) rfl) _) rfl ?_
      refine WL_nil ?_
      refine nrm ?_
      refine WC_ret ?_
      refine rtE ?_
      exact gv1 rfl rfl h
    · rw [if_neg (neT hb24)] at h
      refine WC_skip ?_
      refine nrm ?_
      refine WC_seq ?_
      refine WC_seq ?_
      refine WC_region ?_
      refine WL_val gd0 ((o_move (v := .int .i64 r22) rfl) _) rfl ?_
      refine WL_val gd0 ((o_move (v := .pointer u1) (by exact e0_3)) _) rfl ?_
      refine WL_val gd0 ((o_nilCheck (by exact (congrArg Value.pointer q11))) _) rfl ?_
      refine WL_val gd0 ((o_fieldAddr 5 Try.underlying45 rfl Try.sizeOf29 rfl rfl rfl) _) rfl ?_
      obtain ⟨x_a29, x_n30, x_c31, hc32, h⟩ := h
      refine WL_val gd0 (o_load Try.isAgg29 rfl hc32) rfl ?_
      refine WL_val gd0 ((o_len Try.underlying29 rfl) _) rfl ?_
      refine WL_val gd0 ((o_gtr rfl rfl) _) rfl ?_
      refine WL_nil ?_
      refine nrm ?_
      refine WC_cond (t := (decide ((x_n30 : Int) < r22))) rfl (fun hb33 => ?_) (fun hb33 => ?_)
      · rw [if_pos (of_decide_eq_true hb33)] at h
        refine WC_exit ?_
        refine exT ?_
        refine exO rfl ?_
        refine exT ?_
        refine exB ?_
        refine nrm ?_
        refine WC_seq ?_
        refine WC_region ?_
        refine WL_val gd0 ((o_move (v := .slice out_a5 out_n6 out_c7) (by exact e3_4)) _) rfl ?_
        refine WL_val gd0 ((o_assign (v := .slice out_a5 out_n6 out_c7) rfl) _) rfl ?_
        refine WL_nil ?_
        refine nrm ?_
        refine WC_ret ?_
        refine rtE ?_
        exact gv1 rfl rfl h
      · rw [if_neg (of_decide_eq_false hb33)] at h
        refine WC_skip ?_
        refine nrm ?_
        refine WC_seq ?_
        refine WC_region ?_
        refine WL_val gd0 ((o_move (v := .pointer u1) (by exact e0_3)) _) rfl ?_
        refine WL_val gd0 ((o_nilCheck (by exact (congrArg Value.pointer q11))) _) rfl ?_
        refine WL_val gd0 ((o_fieldAddr 5 Try.underlying45 rfl Try.sizeOf29 rfl rfl rfl) _) rfl ?_
        obtain ⟨x_a34, x_n35, x_c36, hc37, h⟩ := h
        refine WL_val gd0 (o_load Try.isAgg29 rfl hc37) rfl ?_
        refine WL_val gd0 ((o_move (v := .int .i64 r22) rfl) _) rfl ?_
        obtain ⟨c38, c39, h⟩ := h
        refine WL_val gd0 ((o_sliceH Try.underlying29 Try.sizeOf5 rfl rfl c38 c39) _) rfl ?_
        refine WL_call gd0 (o_call Try.call22 (argCons rfl argNil) _) rfl (h.mono ?_)
        rintro _ w40 ⟨p_a41, p_n42, p_c43, rfl, h⟩
        refine WL_val gd0 ((o_assign (v := .slice p_a41 p_n42 p_c43) rfl) _) rfl ?_
        refine WL_nil ?_
        refine nrm ?_
        refine WC_seq ?_
        refine WC_region ?_
        refine WL_val gd0 ((o_move (v := .pointer u1) (by exact e0_3)) _) rfl ?_
        refine WL_val gd0 ((o_move (v := .pointer u1) (by exact e0_3)) _) rfl ?_
        refine WL_val gd0 ((o_nilCheck (by exact (congrArg Value.pointer q11))) _) rfl ?_
        refine WL_val gd0 ((o_fieldAddr 5 Try.underlying45 rfl Try.sizeOf29 rfl rfl rfl) _) rfl ?_
        obtain ⟨x_a44, x_n45, x_c46, hc47, h⟩ := h
        refine WL_val gd0 (o_load Try.isAgg29 rfl hc47) rfl ?_
        refine WL_val gd0 ((o_move (v := .int .i64 r22) rfl) _) rfl ?_
        obtain ⟨c48, c49, h⟩ := h
        refine WL_val gd0 ((o_sliceL Try.underlying29 Try.sizeOf5 rfl rfl c48 c49) _) rfl ?_
        refine WL_val gd0 ((o_nilCheck (by exact (congrArg Value.pointer q11))) _) rfl ?_
        refine WL_val gd0 ((o_fieldAddr 5 Try.underlying45 rfl Try.sizeOf29 rfl rfl rfl) _) rfl ?_
        obtain ⟨c51, h⟩ := h
        refine WL_act gd0 (o_store (v := .slice (cutA x_a44 x_c46 r22.toNat 1) (x_n45 - r22.toNat) (x_c46 - r22.toNat)) Try.sizeOf29 rfl rfl rfl c51) ?_
        generalize hw50 : World.setCell w40 (p10.add 5) (.slice (cutA x_a44 x_c46 r22.toNat 1) (x_n45 - r22.toNat) (x_c46 - r22.toNat)) = w50 at h ⊢
        try dsimp only at h
        refine WL_nil ?_
        refine nrm ?_
        refine WC_seq ?_
        refine WC_draws [] (.look 0 (.look 1 (.look 2 (.look 3 (.look 4 (.look 5 (.look 6 (.look 7 (.look 8 (.look 9 (.look 10 (.look 11 .nil)))))))))))) Try.mixed (by kernel_rfl) ?_
        refine WQ_val rfl gd0 (o_move (v := .slice p_a41 p_n42 p_c43) rfl) rfl ?_
        obtain ⟨p54, q55, h⟩ := h
        obtain ⟨l52, u53, h⟩ := h
        refine WQ_val rfl gd0 (o_indexAddr1 Try.underlying29 Try.sizeOf5 (by exact (congrArg (fun z => Value.slice z p_n42 p_c43) q55)) rfl l52 u53) rfl ?_
        obtain ⟨x56, hc57, h⟩ := h
        refine WQ_look (fun w => w.cell? (p54.add ((0 : Int).toNat)) = some (.int .u8 x56)) rfl gd0 (fun w hc => (o_load Try.isAgg5 rfl hc)) hc57 rfl ?_
        refine WQ_val rfl gd0 (o_and rfl rfl) rfl ?_
        refine WQ_val rfl gd0 (o_conv Try.underlying5 Try.underlying3 rfl) rfl ?_
        refine WQ_val rfl gd0 (o_shl rfl rfl (by decide)) rfl ?_
        refine WQ_val rfl gd0 (o_move (v := .slice p_a41 p_n42 p_c43) rfl) rfl ?_
        obtain ⟨l58, u59, h⟩ := h
        refine WQ_val rfl gd0 (o_indexAddr1 Try.underlying29 Try.sizeOf5 (by exact (congrArg (fun z => Value.slice z p_n42 p_c43) q55)) rfl l58 u59) rfl ?_
        obtain ⟨x60, hc61, h⟩ := h
        refine WQ_look (fun w => w.cell? (p54.add ((1 : Int).toNat)) = some (.int .u8 x60)) rfl gd0 (fun w hc => (o_load Try.isAgg5 rfl hc)) hc61 rfl ?_
        refine WQ_val rfl gd0 (o_conv Try.underlying5 Try.underlying3 rfl) rfl ?_
        refine WQ_val rfl gd0 (o_or rfl rfl) rfl ?_
        refine WQ_val rfl gd0 (o_neq rfl rfl) rfl ?_
        refine WQ_nil ?_
        refine nrm ?_
        refine WC_cond (t := (decide ((bor .i64 (shl .i64 (IntKind.i64.wrap (band .u8 x56 7)) 8) (IntKind.i64.wrap x60)) ≠ 2047))) rfl (fun hb62 => ?_) (fun hb62 => ?_)
        · rw [if_pos (of_decide_eq_true hb62)] at h
          refine WC_region ?_
          refine WL_val gd0 ((o_move (v := .slice out_a5 out_n6 out_c7) (by exact e3_4)) _) rfl ?_
          refine WL_val gd0 ((o_move (v := .slice p_a41 p_n42 p_c43) rfl) _) rfl ?_
          have h := New.out h
          refine WL_val gd0 (o_buildSlice (e := 29) (ps := [(0, .slice p_a41 p_n42 p_c43)]) (cs := [.slice p_a41 p_n42 p_c43]) (partCons rfl partNil) (fun w => by kernel_rfl)) rfl ?_
          generalize hp63 : fresh w50.drew = p63 at h ⊢
          generalize hw64 : push w50.drew 29 [.slice p_a41 p_n42 p_c43] = w64 at h ⊢
          try dsimp only at h
          obtain ⟨b_a65, b_n66, b_c67, w68, r69, h⟩ := h
          refine WL_val gd0 (o_append rfl rfl r69) rfl ?_
          refine WL_val gd0 ((o_assign (v := .slice b_a65 b_n66 b_c67) rfl) _) rfl ?_
          refine WL_nil ?_
          refine nrmB ?_
          refine nrm ?_
          obtain ⟨m9, hm9, h⟩ := h
          exact ⟨m9, hm9, _, _, _, rfl, e0_3, h⟩
        · rw [if_neg (of_decide_eq_false hb62)] at h
          refine WC_skip ?_
          refine nrmB ?_
          refine nrm ?_
          obtain ⟨m9, hm9, h⟩ := h
          exact ⟨m9, hm9, _, _, _, e3_4, e0_3, h⟩
  · rw [if_neg (of_decide_eq_false hb16)] at h
    refine WC_exit ?_
    refine exT ?_
    refine exT ?_
    refine exB ?_
    refine nrm ?_
    refine WC_seq ?_
    refine WC_region ?_
    refine WL_val gd0 ((o_move (v := .slice out_a5 out_n6 out_c7) (by exact e3_4)) _) rfl ?_
    refine WL_val gd0 ((o_assign (v := .slice out_a5 out_n6 out_c7) rfl) _) rfl ?_
    refine WL_nil ?_
    refine nrm ?_
    refine WC_ret ?_
    refine rtE ?_
    exact gv1 rfl rfl h

/-- spacecraft packet.idle -/
def F24 (p1 : Bool) (p2 : Bool) (p3 : Int) (p4 : Int) (p5 : Int) (p_a6 : Option Addr) (p_n7 : Nat) (p_c8 : Nat) (w9 : World) (k : Value → World → Prop) : Prop :=
  New w9 34 [.bool p1, .bool p2, .int .i64 p3, .int .i64 p4, .int .i64 p5, .slice p_a6 p_n7 p_c8] (fun p10 w11 => ∃ (x12 : Bool), w11.drew.cell? p10 = some (.bool x12) ∧ if (!x12) = true then
  ∃ (x15 : Bool), w11.drew.cell? (p10.add 1) = some (.bool x15) ∧ if (!x15) = true then
    ∃ (x18 : Int), w11.drew.cell? (p10.add 3) = some (.int .i64 x18) ∧ if x18 = 3 then
      ∃ (x21 : Int), w11.drew.cell? (p10.add 4) = some (.int .i64 x21) ∧ if x21 = 0 then
        ∃ (x_a24 : Option Addr) (x_n25 x_c26 : Nat), w11.drew.cell? (p10.add 5) = some (.slice x_a24 x_n25 x_c26) ∧ ∃ (x_a28 : Option Addr) (x_n29 x_c30 : Nat), w11.drew.cell? (p10.add 5) = some (.slice x_a28 x_n29 x_c30) ∧ New w11.drew 5 [.int .u8 0] (fun p32 w33 => w33.cell? (p10.add 5) = some (.slice x_a24 x_n25 x_c26) ∧ w33.cell? (p10.add 5) = some (.slice x_a28 x_n29 x_c30) ∧ Does Try.prog 32 #[.slice x_a24 x_n25 x_c26, .slice (some p32) 1 1] w33 (fun v w36 => ∃ (x37 : Int), v = .int .i64 x37 ∧ w36.cell? (p10.add 5) = some (.slice x_a28 x_n29 x_c30) ∧ k (.bool (decide (x37 = (x_n29 : Int)))) w36))
      else
        k (.bool false) w11.drew
    else
      k (.bool false) w11.drew
  else
    k (.bool false) w11.drew
else
  k (.bool false) w11.drew)
set_option maxRecDepth 100000 in
set_option maxHeartbeats 2000000 in
theorem w24 (p1 : Bool) (p2 : Bool) (p3 : Int) (p4 : Int) (p5 : Int) (p_a6 : Option Addr) (p_n7 : Nat) (p_c8 : Nat) (w9 : World) (k : Value → World → Prop) (h : F24 p1 p2 p3 p4 p5 p_a6 p_n7 p_c8 w9 k) : Does Try.prog 24 #[.agg #[.bool p1, .bool p2, .int .i64 p3, .int .i64 p4, .int .i64 p5, .slice p_a6 p_n7 p_c8]] w9 k := by
  refine enter 31 Try.func24 rfl rfl rfl ?_
  intro ρ hρ
  have e0 := hρ 0 _ rfl
  unfold F24 at h
  refine WC_seq ?_
  refine WC_region ?_
  have h := New.out h
  refine WL_val gd0 (o_box (v := .agg #[.bool p1, .bool p2, .int .i64 p3, .int .i64 p4, .int .i64 p5, .slice p_a6 p_n7 p_c8]) (cs := [.bool p1, .bool p2, .int .i64 p3, .int .i64 p4, .int .i64 p5, .slice p_a6 p_n7 p_c8]) (by exact e0) rfl) rfl ?_
  generalize hp10 : fresh w9 = p10 at h ⊢
  generalize hw11 : push w9 34 [.bool p1, .bool p2, .int .i64 p3, .int .i64 p4, .int .i64 p5, .slice p_a6 p_n7 p_c8] = w11 at h ⊢
  try dsimp only at h
  refine WL_val gd0 ((o_assign (v := .bool false) rfl) _) rfl ?_
  refine WL_nil ?_
  refine nrm ?_
  refine WC_seq ?_
  refine WC_draws [21, 22] (.look 0 (.look 1 (.look 2 (.look 3 (.look 4 (.look 5 (.look 6 (.look 7 (.look 8 (.look 9 (.look 10 (.look 11 (.look 12 (.look 13 (.look 14 (.look 15 (.look 16 (.look 17 (.look 18 (.look 19 (.look 20 (.look 23 (.look 24 (.look 25 (.act 21 (.act 22 (.look 26 (.look 27 (.look 28 .nil))))))))))))))))))))))))))))) Try.mixed (by kernel_rfl) ?_
  refine WQ_val rfl gd0 (o_fieldAddr0 Try.underlying34 rfl Try.sizeOf4 rfl rfl rfl) rfl ?_
  obtain ⟨x12, hc13, h⟩ := h
  refine WQ_look (fun w => w.cell? p10 = some (.bool x12)) rfl gd0 (fun w hc => (o_load Try.isAgg4 rfl hc)) hc13 rfl ?_
  refine WQ_val rfl gd0 (o_not rfl) rfl ?_
  refine WQ_val rfl gd0 (o_move (v := .bool (!x12)) rfl) rfl ?_
  refine bsplit (!x12) (fun hb14 => ?_) (fun hb14 => ?_)
  · rw [if_pos hb14] at h
    refine WQ_val rfl (gdY (b := (!x12)) 6 rfl rfl hb14) (o_fieldAddr 1 Try.underlying34 rfl Try.sizeOf4 rfl rfl rfl) rfl ?_
    obtain ⟨x15, hc16, h⟩ := h
    refine WQ_look (fun w => w.cell? (p10.add 1) = some (.bool x15)) rfl (gdY (b := (!x12)) 6 rfl rfl hb14) (fun w hc => (o_load Try.isAgg4 rfl hc)) hc16 rfl ?_
    refine WQ_val rfl (gdY (b := (!x12)) 6 rfl rfl hb14) (o_not rfl) rfl ?_
    refine WQ_val rfl gd0 (o_pickT (v := .bool (!x15)) rfl hb14 rfl) rfl ?_
    refine WQ_val rfl gd0 (o_move (v := .bool (!x15)) rfl) rfl ?_
    refine bsplit (!x15) (fun hb17 => ?_) (fun hb17 => ?_)
    · rw [if_pos hb17] at h
      refine WQ_val rfl (gdY (b := (!x15)) 11 rfl rfl hb17) (o_fieldAddr 3 Try.underlying34 rfl Try.sizeOf3 rfl rfl rfl) rfl ?_
      obtain ⟨x18, hc19, h⟩ := h
      refine WQ_look (fun w => w.cell? (p10.add 3) = some (.int .i64 x18)) rfl (gdY (b := (!x15)) 11 rfl rfl hb17) (fun w hc => (o_load Try.isAgg3 rfl hc)) hc19 rfl ?_
      refine WQ_val rfl (gdY (b := (!x15)) 11 rfl rfl hb17) (o_eql rfl rfl) rfl ?_
      refine WQ_val rfl gd0 (o_pickT (v := .bool (decide (x18 = 3))) rfl hb17 rfl) rfl ?_
      refine WQ_val rfl gd0 (o_move (v := .bool (decide (x18 = 3))) rfl) rfl ?_
      refine bsplit (decide (x18 = 3)) (fun hb20 => ?_) (fun hb20 => ?_)
      · rw [if_pos (of_decide_eq_true hb20)] at h
        refine WQ_val rfl (gdY (b := (decide (x18 = 3))) 16 rfl rfl hb20) (o_fieldAddr 4 Try.underlying34 rfl Try.sizeOf3 rfl rfl rfl) rfl ?_
        obtain ⟨x21, hc22, h⟩ := h
        refine WQ_look (fun w => w.cell? (p10.add 4) = some (.int .i64 x21)) rfl (gdY (b := (decide (x18 = 3))) 16 rfl rfl hb20) (fun w hc => (o_load Try.isAgg3 rfl hc)) hc22 rfl ?_
        refine WQ_val rfl (gdY (b := (decide (x18 = 3))) 16 rfl rfl hb20) (o_eql rfl rfl) rfl ?_
        refine WQ_val rfl gd0 (o_pickT (v := .bool (decide (x21 = 0))) rfl hb20 rfl) rfl ?_
        refine WQ_val rfl gd0 (o_move (v := .bool (decide (x21 = 0))) rfl) rfl ?_
        refine bsplit (decide (x21 = 0)) (fun hb23 => ?_) (fun hb23 => ?_)
        · rw [if_pos (of_decide_eq_true hb23)] at h
          refine WQ_val rfl (gdY (b := (decide (x21 = 0))) 21 rfl rfl hb23) (o_fieldAddr 5 Try.underlying34 rfl Try.sizeOf29 rfl rfl rfl) rfl ?_
          obtain ⟨x_a24, x_n25, x_c26, hc27, h⟩ := h
          refine WQ_look (fun w => w.cell? (p10.add 5) = some (.slice x_a24 x_n25 x_c26)) rfl (gdY (b := (decide (x21 = 0))) 21 rfl rfl hb23) (fun w hc => (o_load Try.isAgg29 rfl hc)) hc27 rfl ?_
          refine WQ_val rfl (gdY (b := (decide (x21 = 0))) 21 rfl rfl hb23) (o_fieldAddr 5 Try.underlying34 rfl Try.sizeOf29 rfl rfl rfl) rfl ?_
          obtain ⟨x_a28, x_n29, x_c30, hc31, h⟩ := h
          refine WQ_look (fun w => w.cell? (p10.add 5) = some (.slice x_a28 x_n29 x_c30)) rfl (gdY (b := (decide (x21 = 0))) 21 rfl rfl hb23) (fun w hc => (o_load Try.isAgg29 rfl hc)) hc31 rfl ?_
          refine WQ_val rfl (gdY (b := (decide (x21 = 0))) 21 rfl rfl hb23) (o_len Try.underlying29 rfl) rfl ?_
          have h := New.out h
          obtain ⟨hh34, hh35, h⟩ := h
          refine WQ_act rfl (gdY (b := (decide (x21 = 0))) 21 rfl rfl hb23) (o_buildSlice (e := 5) (ps := [(0, .int .u8 0)]) (cs := [.int .u8 0]) (partCons rfl partNil) (fun w => by kernel_rfl)) rfl (by exact ⟨⟨⟨⟨⟨⟨trivial, depT (by kernel_rfl)⟩, depT (by kernel_rfl)⟩, depT (by kernel_rfl)⟩, depT (by kernel_rfl)⟩, fun _ => hh34⟩, fun _ => hh35⟩) ?_
          generalize hp32 : fresh w11.drew = p32 at h ⊢
          generalize hw33 : push w11.drew 5 [.int .u8 0] = w33 at h ⊢
          try dsimp only at h
          refine WQ_call rfl (gdY (b := (decide (x21 = 0))) 21 rfl rfl hb23) (o_call Try.call32 (argCons rfl (argCons rfl argNil)) _) rfl (h.mono ?_)
          rintro _ w36 ⟨x37, rfl, hh38, h⟩
          refine ⟨⟨⟨⟨⟨⟨⟨trivial, depT (by kernel_rfl)⟩, depT (by kernel_rfl)⟩, depT (by kernel_rfl)⟩, depT (by kernel_rfl)⟩, depT (by kernel_rfl)⟩, fun _ => hh38⟩, ?_⟩
          refine WQ_val rfl (gdY (b := (decide (x21 = 0))) 21 rfl rfl hb23) (o_eql rfl rfl) rfl ?_
          refine WQ_val rfl gd0 (o_pickT (v := .bool (decide (x37 = (x_n29 : Int)))) rfl hb23 rfl) rfl ?_
          refine WQ_val rfl gd0 (o_assign (v := .bool (decide (x37 = (x_n29 : Int)))) rfl) rfl ?_
          refine WQ_nil ?_
          refine nrm ?_
          refine WC_ret ?_
          refine rtE ?_
          exact gv1 rfl rfl h
        · rw [if_neg (of_decide_eq_false hb23)] at h
          refine WQ_skip rfl (gdN (b := (decide (x21 = 0))) 21 rfl rfl hb23) rfl ?_
          refine WQ_skip rfl (gdN (b := (decide (x21 = 0))) 21 rfl rfl hb23) rfl ?_
          refine WQ_skip rfl (gdN (b := (decide (x21 = 0))) 21 rfl rfl hb23) rfl ?_
          refine WQ_skip rfl (gdN (b := (decide (x21 = 0))) 21 rfl rfl hb23) rfl ?_
          refine WQ_skip rfl (gdN (b := (decide (x21 = 0))) 21 rfl rfl hb23) rfl ?_
          refine WQ_passAct rfl (gdN (b := (decide (x21 = 0))) 21 rfl rfl hb23) rfl (by exact ⟨⟨⟨⟨trivial, depT (by kernel_rfl)⟩, depT (by kernel_rfl)⟩, depT (by kernel_rfl)⟩, depT (by kernel_rfl)⟩) ?_
          refine WQ_passAct rfl (gdN (b := (decide (x21 = 0))) 21 rfl rfl hb23) rfl (by exact ⟨⟨⟨⟨trivial, depT (by kernel_rfl)⟩, depT (by kernel_rfl)⟩, depT (by kernel_rfl)⟩, depT (by kernel_rfl)⟩) ?_
          refine WQ_skip rfl (gdN (b := (decide (x21 = 0))) 21 rfl rfl hb23) rfl ?_
          refine WQ_val rfl gd0 (o_pickF (v := .bool false) rfl hb23 rfl) rfl ?_
          refine WQ_val rfl gd0 (o_assign (v := .bool false) rfl) rfl ?_
          refine WQ_nil ?_
          refine nrm ?_
          refine WC_ret ?_
          refine rtE ?_
          exact gv1 rfl rfl h
      · rw [if_neg (of_decide_eq_false hb20)] at h
        refine WQ_skip rfl (gdN (b := (decide (x18 = 3))) 16 rfl rfl hb20) rfl ?_
        refine WQ_skip rfl (gdN (b := (decide (x18 = 3))) 16 rfl rfl hb20) rfl ?_
        refine WQ_skip rfl (gdN (b := (decide (x18 = 3))) 16 rfl rfl hb20) rfl ?_
        refine WQ_val rfl gd0 (o_pickF (v := .bool false) rfl hb20 rfl) rfl ?_
        refine WQ_val rfl gd0 (o_move (v := .bool false) rfl) rfl ?_
        refine WQ_skip rfl (gdN (b := false) 21 rfl rfl rfl) rfl ?_
        refine WQ_skip rfl (gdN (b := false) 21 rfl rfl rfl) rfl ?_
        refine WQ_skip rfl (gdN (b := false) 21 rfl rfl rfl) rfl ?_
        refine WQ_skip rfl (gdN (b := false) 21 rfl rfl rfl) rfl ?_
        refine WQ_skip rfl (gdN (b := false) 21 rfl rfl rfl) rfl ?_
        refine WQ_passAct rfl (gdN (b := false) 21 rfl rfl rfl) rfl (by exact ⟨⟨⟨trivial, depT (by kernel_rfl)⟩, depT (by kernel_rfl)⟩, depT (by kernel_rfl)⟩) ?_
        refine WQ_passAct rfl (gdN (b := false) 21 rfl rfl rfl) rfl (by exact ⟨⟨⟨trivial, depT (by kernel_rfl)⟩, depT (by kernel_rfl)⟩, depT (by kernel_rfl)⟩) ?_
        refine WQ_skip rfl (gdN (b := false) 21 rfl rfl rfl) rfl ?_
        refine WQ_val rfl gd0 (o_pickF (v := .bool false) rfl rfl rfl) rfl ?_
        refine WQ_val rfl gd0 (o_assign (v := .bool false) rfl) rfl ?_
        refine WQ_nil ?_
        refine nrm ?_
        refine WC_ret ?_
        refine rtE ?_
        exact gv1 rfl rfl h
    · rw [if_neg (neT hb17)] at h
      refine WQ_skip rfl (gdN (b := (!x15)) 11 rfl rfl hb17) rfl ?_
      refine WQ_skip rfl (gdN (b := (!x15)) 11 rfl rfl hb17) rfl ?_
      refine WQ_skip rfl (gdN (b := (!x15)) 11 rfl rfl hb17) rfl ?_
      refine WQ_val rfl gd0 (o_pickF (v := .bool false) rfl hb17 rfl) rfl ?_
      refine WQ_val rfl gd0 (o_move (v := .bool false) rfl) rfl ?_
      refine WQ_skip rfl (gdN (b := false) 16 rfl rfl rfl) rfl ?_
      refine WQ_skip rfl (gdN (b := false) 16 rfl rfl rfl) rfl ?_
      refine WQ_skip rfl (gdN (b := false) 16 rfl rfl rfl) rfl ?_
      refine WQ_val rfl gd0 (o_pickF (v := .bool false) rfl rfl rfl) rfl ?_
      refine WQ_val rfl gd0 (o_move (v := .bool false) rfl) rfl ?_
      refine WQ_skip rfl (gdN (b := false) 21 rfl rfl rfl) rfl ?_
      refine WQ_skip rfl (gdN (b := false) 21 rfl rfl rfl) rfl ?_
      refine WQ_skip rfl (gdN (b := false) 21 rfl rfl rfl) rfl ?_
      refine WQ_skip rfl (gdN (b := false) 21 rfl rfl rfl) rfl ?_
      refine WQ_skip rfl (gdN (b := false) 21 rfl rfl rfl) rfl ?_
      refine WQ_passAct rfl (gdN (b := false) 21 rfl rfl rfl) rfl (by exact ⟨⟨trivial, depT (by kernel_rfl)⟩, depT (by kernel_rfl)⟩) ?_
      refine WQ_passAct rfl (gdN (b := false) 21 rfl rfl rfl) rfl (by exact ⟨⟨trivial, depT (by kernel_rfl)⟩, depT (by kernel_rfl)⟩) ?_
      refine WQ_skip rfl (gdN (b := false) 21 rfl rfl rfl) rfl ?_
      refine WQ_val rfl gd0 (o_pickF (v := .bool false) rfl rfl rfl) rfl ?_
      refine WQ_val rfl gd0 (o_assign (v := .bool false) rfl) rfl ?_
      refine WQ_nil ?_
      refine nrm ?_
      refine WC_ret ?_
      refine rtE ?_
      exact gv1 rfl rfl h
  · rw [if_neg (neT hb14)] at h
    refine WQ_skip rfl (gdN (b := (!x12)) 6 rfl rfl hb14) rfl ?_
    refine WQ_skip rfl (gdN (b := (!x12)) 6 rfl rfl hb14) rfl ?_
    refine WQ_skip rfl (gdN (b := (!x12)) 6 rfl rfl hb14) rfl ?_
    refine WQ_val rfl gd0 (o_pickF (v := .bool false) rfl hb14 rfl) rfl ?_
    refine WQ_val rfl gd0 (o_move (v := .bool false) rfl) rfl ?_
    refine WQ_skip rfl (gdN (b := false) 11 rfl rfl rfl) rfl ?_
    refine WQ_skip rfl (gdN (b := false) 11 rfl rfl rfl) rfl ?_
    refine WQ_skip rfl (gdN (b := false) 11 rfl rfl rfl) rfl ?_
    refine WQ_val rfl gd0 (o_pickF (v := .bool false) rfl rfl rfl) rfl ?_
    refine WQ_val rfl gd0 (o_move (v := .bool false) rfl) rfl ?_
    refine WQ_skip rfl (gdN (b := false) 16 rfl rfl rfl) rfl ?_
    refine WQ_skip rfl (gdN (b := false) 16 rfl rfl rfl) rfl ?_
    refine WQ_skip rfl (gdN (b := false) 16 rfl rfl rfl) rfl ?_
    refine WQ_val rfl gd0 (o_pickF (v := .bool false) rfl rfl rfl) rfl ?_
    refine WQ_val rfl gd0 (o_move (v := .bool false) rfl) rfl ?_
    refine WQ_skip rfl (gdN (b := false) 21 rfl rfl rfl) rfl ?_
    refine WQ_skip rfl (gdN (b := false) 21 rfl rfl rfl) rfl ?_
    refine WQ_skip rfl (gdN (b := false) 21 rfl rfl rfl) rfl ?_
    refine WQ_skip rfl (gdN (b := false) 21 rfl rfl rfl) rfl ?_
    refine WQ_skip rfl (gdN (b := false) 21 rfl rfl rfl) rfl ?_
    refine WQ_passAct rfl (gdN (b := false) 21 rfl rfl rfl) rfl (by exact ⟨trivial, depT (by kernel_rfl)⟩) ?_
    refine WQ_passAct rfl (gdN (b := false) 21 rfl rfl rfl) rfl (by exact ⟨trivial, depT (by kernel_rfl)⟩) ?_
    refine WQ_skip rfl (gdN (b := false) 21 rfl rfl rfl) rfl ?_
    refine WQ_val rfl gd0 (o_pickF (v := .bool false) rfl rfl rfl) rfl ?_
    refine WQ_val rfl gd0 (o_assign (v := .bool false) rfl) rfl ?_
    refine WQ_nil ?_
    refine nrm ?_
    refine WC_ret ?_
    refine rtE ?_
    exact gv1 rfl rfl h

/-- spacecraft packet.Size -/
def F25 (b_a1 : Option Addr) (b_n2 : Nat) (b_c3 : Nat) (w4 : World) (k : Value → World → Prop) : Prop :=
  if (b_n2 : Int) < 6 then
  k (.tuple #[.int .i64 0, .int .i64 3]) w4
else
  ∃ (p8 : Addr), b_a1 = some p8 ∧ (0 : Int) ≤ 0 ∧ 0 < (b_n2 : Int) ∧ ∃ (x10 : Int), w4.cell? (p8.add ((0 : Int).toNat)) = some (.int .u8 x10) ∧ if (shr .u8 x10 5) ≠ 0 then
    k (.tuple #[.int .i64 0, .int .i64 4]) w4
  else
    (0 : Int) ≤ 4 ∧ 4 ≤ (b_n2 : Int) ∧ Does Try.prog 26 #[.slice (cutA b_a1 b_c3 ((4 : Int).toNat) 1) (b_n2 - (4 : Int).toNat) (b_c3 - (4 : Int).toNat)] w4 (fun v w15 => ∃ (x16 : Int), v = .int .i64 x16 ∧ if 4096 < (IntKind.i64.wrap (7 + x16)) then
      k (.tuple #[.int .i64 0, .int .i64 6]) w15
    else
      k (.tuple #[.int .i64 (IntKind.i64.wrap (7 + x16)), .int .i64 0]) w15)
set_option maxRecDepth 100000 in
set_option maxHeartbeats 2000000 in
theorem w25 (b_a1 : Option Addr) (b_n2 : Nat) (b_c3 : Nat) (w4 : World) (k : Value → World → Prop) (h : F25 b_a1 b_n2 b_c3 w4 k) : Does Try.prog 25 #[.slice b_a1 b_n2 b_c3] w4 k := by
  refine enter 20 Try.func25 rfl rfl rfl ?_
  intro ρ hρ
  have e0 := hρ 0 _ rfl
  unfold F25 at h
  refine WC_seq ?_
  refine WC_region ?_
  refine WL_val gd0 ((o_assign (v := .int .i64 0) rfl) _) rfl ?_
  refine WL_val gd0 ((o_assign (v := .int .i64 0) rfl) _) rfl ?_
  refine WL_nil ?_
  refine nrm ?_
  refine WC_seq ?_
  refine WC_seq ?_
  refine WC_region ?_
  refine WL_val gd0 ((o_move (v := .slice b_a1 b_n2 b_c3) (by exact e0)) _) rfl ?_
  refine WL_val gd0 ((o_len Try.underlying29 rfl) _) rfl ?_
  refine WL_val gd0 ((o_lss rfl rfl) _) rfl ?_
  refine WL_nil ?_
  refine nrm ?_
  refine WC_cond (t := (decide ((b_n2 : Int) < 6))) rfl (fun hb5 => ?_) (fun hb5 => ?_)
  · rw [if_pos (of_decide_eq_true hb5)] at h
    refine WC_seq ?_
    refine WC_region ?_
    refine WL_val gd0 ((o_assign (v := .int .i64 0) rfl) _) rfl ?_
    refine WL_val gd0 ((o_assign (v := .int .i64 3) rfl) _) rfl ?_
    refine WL_nil ?_
    refine nrm ?_
    refine WC_ret ?_
    refine rtT ?_
    refine rtE ?_
    exact gv2 rfl rfl rfl h
  · rw [if_neg (of_decide_eq_false hb5)] at h
    refine WC_skip ?_
    refine nrm ?_
    refine WC_seq ?_
    refine WC_seq ?_
    refine WC_region ?_
    refine WL_val gd0 ((o_move (v := .slice b_a1 b_n2 b_c3) (by exact e0)) _) rfl ?_
    obtain ⟨p8, q9, h⟩ := h
    obtain ⟨l6, u7, h⟩ := h
    refine WL_val gd0 ((o_indexAddr1 Try.underlying29 Try.sizeOf5 (by exact (congrArg (fun z => Value.slice z b_n2 b_c3) q9)) rfl l6 u7) _) rfl ?_
    obtain ⟨x10, hc11, h⟩ := h
    refine WL_val gd0 (o_load Try.isAgg5 rfl hc11) rfl ?_
    refine WL_val gd0 ((o_shr rfl rfl (by decide)) _) rfl ?_
    refine WL_val gd0 ((o_neq rfl rfl) _) rfl ?_
    refine WL_nil ?_
    refine nrm ?_
    refine WC_cond (t := (decide ((shr .u8 x10 5) ≠ 0))) rfl (fun hb12 => ?_) (fun hb12 => ?_)
    · rw [if_pos (of_decide_eq_true hb12)] at h
      refine WC_seq ?_
      refine WC_region ?_
      refine WL_val gd0 ((o_assign (v := .int .i64 0) rfl) _) rfl ?_
      refine WL_val gd0 ((o_assign (v := .int .i64 4) rfl) _) rfl ?_
      refine WL_nil ?_
      refine nrm ?_
      refine WC_ret ?_
      refine rtT ?_
      refine rtE ?_
      exact gv2 rfl rfl rfl h
    · rw [if_neg (of_decide_eq_false hb12)] at h
      refine WC_skip ?_
      refine nrm ?_
      refine WC_seq ?_
      refine WC_region ?_
      refine WL_val gd0 ((o_move (v := .slice b_a1 b_n2 b_c3) (by exact e0)) _) rfl ?_
      obtain ⟨c13, c14, h⟩ := h
      refine WL_val gd0 ((o_sliceL Try.underlying29 Try.sizeOf5 rfl rfl c13 c14) _) rfl ?_
      refine WL_call gd0 (o_call Try.call26 (argCons rfl argNil) _) rfl (h.mono ?_)
      rintro _ w15 ⟨x16, rfl, h⟩
      refine WL_val gd0 ((o_add rfl rfl) _) rfl ?_
      refine WL_val gd0 ((o_assign (v := .int .i64 (IntKind.i64.wrap (7 + x16))) rfl) _) rfl ?_
      refine WL_nil ?_
      refine nrm ?_
      refine WC_seq ?_
      refine WC_seq ?_
      refine WC_region ?_
      refine WL_val gd0 ((o_move (v := .int .i64 (IntKind.i64.wrap (7 + x16))) rfl) _) rfl ?_
      refine WL_val gd0 ((o_gtr rfl rfl) _) rfl ?_
      refine WL_nil ?_
      refine nrm ?_
      refine WC_cond (t := (decide (4096 < (IntKind.i64.wrap (7 + x16))))) rfl (fun hb17 => ?_) (fun hb17 => ?_)
      · rw [if_pos (of_decide_eq_true hb17)] at h
        refine WC_seq ?_
        refine WC_region ?_
        refine WL_val gd0 ((o_assign (v := .int .i64 0) rfl) _) rfl ?_
        refine WL_val gd0 ((o_assign (v := .int .i64 6) rfl) _) rfl ?_
        refine WL_nil ?_
        refine nrm ?_
        refine WC_ret ?_
        refine rtT ?_
        refine rtE ?_
        exact gv2 rfl rfl rfl h
      · rw [if_neg (of_decide_eq_false hb17)] at h
        refine WC_skip ?_
        refine nrm ?_
        refine WC_seq ?_
        refine WC_region ?_
        refine WL_val gd0 ((o_move (v := .int .i64 (IntKind.i64.wrap (7 + x16))) rfl) _) rfl ?_
        refine WL_val gd0 ((o_assign (v := .int .i64 (IntKind.i64.wrap (7 + x16))) rfl) _) rfl ?_
        refine WL_val gd0 ((o_assign (v := .int .i64 0) rfl) _) rfl ?_
        refine WL_nil ?_
        refine nrm ?_
        refine WC_ret ?_
        refine rtE ?_
        exact gv2 rfl rfl rfl h

/-- spacecraft packet.word -/
def F26 (b_a1 : Option Addr) (b_n2 : Nat) (b_c3 : Nat) (w4 : World) (k : Value → World → Prop) : Prop :=
  ∃ (p7 : Addr), b_a1 = some p7 ∧ (0 : Int) ≤ 0 ∧ 0 < (b_n2 : Int) ∧ ∃ (x9 : Int), w4.drew.cell? (p7.add ((0 : Int).toNat)) = some (.int .u8 x9) ∧ (0 : Int) ≤ 1 ∧ 1 < (b_n2 : Int) ∧ ∃ (x13 : Int), w4.drew.cell? (p7.add ((1 : Int).toNat)) = some (.int .u8 x13) ∧ k (.int .i64 (bor .i64 (shl .i64 (IntKind.i64.wrap x9) 8) (IntKind.i64.wrap x13))) w4.drew
set_option maxRecDepth 100000 in
set_option maxHeartbeats 2000000 in
theorem w26 (b_a1 : Option Addr) (b_n2 : Nat) (b_c3 : Nat) (w4 : World) (k : Value → World → Prop) (h : F26 b_a1 b_n2 b_c3 w4 k) : Does Try.prog 26 #[.slice b_a1 b_n2 b_c3] w4 k := by
  refine enter 13 Try.func26 rfl rfl rfl ?_
  intro ρ hρ
  have e0 := hρ 0 _ rfl
  unfold F26 at h
  refine WC_seq ?_
  refine WC_region ?_
  refine WL_val gd0 ((o_assign (v := .int .i64 0) rfl) _) rfl ?_
  refine WL_nil ?_
  refine nrm ?_
  refine WC_seq ?_
  refine WC_draws [] (.look 0 (.look 1 (.look 2 (.look 3 (.look 4 (.look 5 (.look 6 (.look 7 (.look 8 (.look 9 (.look 10 .nil))))))))))) Try.mixed (by kernel_rfl) ?_
  refine WQ_val rfl gd0 (o_move (v := .slice b_a1 b_n2 b_c3) (by exact e0)) rfl ?_
  obtain ⟨p7, q8, h⟩ := h
  obtain ⟨l5, u6, h⟩ := h
  refine WQ_val rfl gd0 (o_indexAddr1 Try.underlying29 Try.sizeOf5 (by exact (congrArg (fun z => Value.slice z b_n2 b_c3) q8)) rfl l5 u6) rfl ?_
  obtain ⟨x9, hc10, h⟩ := h
  refine WQ_look (fun w => w.cell? (p7.add ((0 : Int).toNat)) = some (.int .u8 x9)) rfl gd0 (fun w hc => (o_load Try.isAgg5 rfl hc)) hc10 rfl ?_
  refine WQ_val rfl gd0 (o_conv Try.underlying5 Try.underlying3 rfl) rfl ?_
  refine WQ_val rfl gd0 (o_shl rfl rfl (by decide)) rfl ?_
  refine WQ_val rfl gd0 (o_move (v := .slice b_a1 b_n2 b_c3) (by exact e0)) rfl ?_
  obtain ⟨l11, u12, h⟩ := h
  refine WQ_val rfl gd0 (o_indexAddr1 Try.underlying29 Try.sizeOf5 (by exact (congrArg (fun z => Value.slice z b_n2 b_c3) q8)) rfl l11 u12) rfl ?_
  obtain ⟨x13, hc14, h⟩ := h
  refine WQ_look (fun w => w.cell? (p7.add ((1 : Int).toNat)) = some (.int .u8 x13)) rfl gd0 (fun w hc => (o_load Try.isAgg5 rfl hc)) hc14 rfl ?_
  refine WQ_val rfl gd0 (o_conv Try.underlying5 Try.underlying3 rfl) rfl ?_
  refine WQ_val rfl gd0 (o_or rfl rfl) rfl ?_
  refine WQ_val rfl gd0 (o_assign (v := .int .i64 (bor .i64 (shl .i64 (IntKind.i64.wrap x9) 8) (IntKind.i64.wrap x13))) rfl) rfl ?_
  refine WQ_nil ?_
  refine nrm ?_
  refine WC_ret ?_
  refine rtE ?_
  exact gv1 rfl rfl h

/-- slices.Clone     byte,  byte  -/
def F27 (s_a1 : Option Addr) (s_n2 : Nat) (s_c3 : Nat) (w4 : World) (k : Value → World → Prop) : Prop :=
  if (s_a1).isNone = true then
  k (.slice none 0 0) w4
else
  New w4 29 [] (fun p6 w7 => ∃ (b_a8 : Option Addr) (b_n9 b_c10 : Nat) (w11 : World), (Builtin.append_ #[28, 28] 28 #[.slice (some p6) 0 0, .slice s_a1 s_n2 s_c3]).run Try.prog w7 = .ok (.slice b_a8 b_n9 b_c10) w11 ∧ k (.slice b_a8 b_n9 b_c10) w11)
set_option maxRecDepth 100000 in
set_option maxHeartbeats 2000000 in
theorem w27 (s_a1 : Option Addr) (s_n2 : Nat) (s_c3 : Nat) (w4 : World) (k : Value → World → Prop) (h : F27 s_a1 s_n2 s_c3 w4 k) : Does Try.prog 27 #[.slice s_a1 s_n2 s_c3] w4 k := by
  refine enter 8 Try.func27 rfl rfl rfl ?_
  intro ρ hρ
  have e0 := hρ 0 _ rfl
  unfold F27 at h
  refine WC_seq ?_
  refine WC_region ?_
  refine WL_val gd0 ((o_assign (v := .slice none 0 0) rfl) _) rfl ?_
  refine WL_nil ?_
  refine nrm ?_
  refine WC_seq ?_
  refine WC_seq ?_
  refine WC_region ?_
  refine WL_val gd0 ((o_move (v := .slice s_a1 s_n2 s_c3) (by exact e0)) _) rfl ?_
  refine WL_val gd0 ((o_eqlSliceNil Try.underlying28 rfl rfl) _) rfl ?_
  refine WL_nil ?_
  refine nrm ?_
  refine WC_cond (t := ((s_a1).isNone)) rfl (fun hb5 => ?_) (fun hb5 => ?_)
  · rw [if_pos hb5] at h
    refine WC_seq ?_
    refine WC_region ?_
    refine WL_val gd0 ((o_assign (v := .slice none 0 0) rfl) _) rfl ?_
    refine WL_nil ?_
    refine nrm ?_
    refine WC_ret ?_
    refine rtT ?_
    refine rtE ?_
    exact gv1 rfl rfl h
  · rw [if_neg (neT hb5)] at h
    refine WC_skip ?_
    refine nrm ?_
    refine WC_seq ?_
    refine WC_region ?_
    have h := New.out h
    refine WL_val gd0 (o_buildSlice (e := 29) (ps := []) (cs := []) partNil (fun w => by kernel_rfl)) rfl ?_
    generalize hp6 : fresh w4 = p6 at h ⊢
    generalize hw7 : push w4 29 [] = w7 at h ⊢
    try dsimp only at h
    refine WL_val gd0 ((o_move (v := .slice s_a1 s_n2 s_c3) (by exact e0)) _) rfl ?_
    obtain ⟨b_a8, b_n9, b_c10, w11, r12, h⟩ := h
    refine WL_val gd0 (o_append rfl rfl r12) rfl ?_
    refine WL_val gd0 ((o_assign (v := .slice b_a8 b_n9 b_c10) rfl) _) rfl ?_
    refine WL_nil ?_
    refine nrm ?_
    refine WC_ret ?_
    refine rtE ?_
    exact gv1 rfl rfl h

/-- spacecraft serial.Distance -/
def F28 (a1 : Int) (b2 : Int) (bits3 : Int) (w4 : World) (k : Value → World → Prop) : Prop :=
  Does Try.prog 33 #[.int .i64 a1, .int .i64 bits3] w4 (fun v w5 => ∃ (x6 : Bool), v = .bool x6 ∧ if (!x6) = true then
  k (.int .i64 0) w5
else
  Does Try.prog 33 #[.int .i64 b2, .int .i64 bits3] w5 (fun v w8 => ∃ (x9 : Bool), v = .bool x9 ∧ if (!x9) = true then
    k (.int .i64 0) w8
  else
    Does Try.prog 29 #[.int .i64 b2, .int .i64 (IntKind.i64.wrap (0 - a1)), .int .i64 bits3] w8 (fun v w11 => ∃ (t12 : Int), v = .int .i64 t12 ∧ k (.int .i64 t12) w11)))
set_option maxRecDepth 100000 in
set_option maxHeartbeats 2000000 in
theorem w28 (a1 : Int) (b2 : Int) (bits3 : Int) (w4 : World) (k : Value → World → Prop) (h : F28 a1 b2 bits3 w4 k) : Does Try.prog 28 #[.int .i64 a1, .int .i64 b2, .int .i64 bits3] w4 k := by
  refine enter 22 Try.func28 rfl rfl rfl ?_
  intro ρ hρ
  have e0 := hρ 0 _ rfl
  have e1 := hρ 1 _ rfl
  have e2 := hρ 2 _ rfl
  unfold F28 at h
  refine WC_seq ?_
  refine WC_region ?_
  refine WL_val gd0 ((o_assign (v := .int .i64 0) rfl) _) rfl ?_
  refine WL_nil ?_
  refine nrm ?_
  refine WC_seq ?_
  refine WC_seq ?_
  refine WC_region ?_
  refine WL_val gd0 ((o_move (v := .int .i64 a1) (by exact e0)) _) rfl ?_
  refine WL_val gd0 ((o_move (v := .int .i64 bits3) (by exact e2)) _) rfl ?_
  refine WL_call gd0 (o_call Try.call33 (argCons rfl (argCons rfl argNil)) _) rfl (h.mono ?_)
  rintro _ w5 ⟨x6, rfl, h⟩
  refine WL_val gd0 ((o_not rfl) _) rfl ?_
  refine WL_val gd0 ((o_move (v := .bool (!x6)) rfl) _) rfl ?_
  refine bsplit (!x6) (fun hb7 => ?_) (fun hb7 => ?_)
  · rw [if_pos hb7] at h
    refine WL_skip (gdN (b := (!x6)) 11 rfl rfl hb7) rfl ?_
    refine WL_skip (gdN (b := (!x6)) 11 rfl rfl hb7) rfl ?_
    refine WL_skip (gdN (b := (!x6)) 11 rfl rfl hb7) rfl ?_
    refine WL_skip (gdN (b := (!x6)) 11 rfl rfl hb7) rfl ?_
    refine WL_val gd0 ((o_pickT (v := .bool true) rfl hb7 rfl) _) rfl ?_
    refine WL_nil ?_
    refine nrm ?_
    refine WC_cond (t := true) rfl (fun _ => ?_) (fun hx => by rw [(rfl : true = true)] at hx; cases hx)
    refine WC_seq ?_
    refine WC_region ?_
    refine WL_val gd0 ((o_assign (v := .int .i64 0) rfl) _) rfl ?_
    refine WL_nil ?_
    refine nrm ?_
    refine WC_ret ?_
    refine rtT ?_
    refine rtE ?_
    exact gv1 rfl rfl h
  · rw [if_neg (neT hb7)] at h
    refine WL_val (gdY (b := (!x6)) 11 rfl rfl hb7) ((o_move (v := .int .i64 b2) (by exact e1)) _) rfl ?_
    refine WL_val (gdY (b := (!x6)) 11 rfl rfl hb7) ((o_move (v := .int .i64 bits3) (by exact e2)) _) rfl ?_
    refine WL_call (gdY (b := (!x6)) 11 rfl rfl hb7) (o_call Try.call33 (argCons rfl (argCons rfl argNil)) _) rfl (h.mono ?_)
    rintro _ w8 ⟨x9, rfl, h⟩
    refine WL_val (gdY (b := (!x6)) 11 rfl rfl hb7) ((o_not rfl) _) rfl ?_
    refine WL_val gd0 ((o_pickF (v := .bool (!x9)) rfl hb7 rfl) _) rfl ?_
    refine WL_nil ?_
    refine nrm ?_
    refine WC_cond (t := (!x9)) rfl (fun hb10 => ?_) (fun hb10 => ?_)
    · rw [if_pos hb10] at h
      refine WC_seq ?_
      refine WC_region ?_
      refine WL_val gd0 ((o_assign (v := .int .i64 0) rfl) _) rfl ?_
      refine WL_nil ?_
      refine nrm ?_
      refine WC_ret ?_
      refine rtT ?_
      refine rtE ?_
      exact gv1 rfl rfl h
    · rw [if_neg (neT hb10)] at h
      refine WC_skip ?_
      refine nrm ?_
      refine WC_seq ?_
      refine WC_region ?_
      refine WL_val gd0 ((o_move (v := .int .i64 b2) (by exact e1)) _) rfl ?_
      refine WL_val gd0 ((o_move (v := .int .i64 a1) (by exact e0)) _) rfl ?_
      refine WL_val gd0 ((o_neg rfl) _) rfl ?_
      refine WL_val gd0 ((o_move (v := .int .i64 bits3) (by exact e2)) _) rfl ?_
      refine WL_call gd0 (o_call Try.call29 (argCons rfl (argCons rfl (argCons rfl argNil))) _) rfl (h.mono ?_)
      rintro _ w11 ⟨t12, rfl, h⟩
      refine WL_val gd0 ((o_assign (v := .int .i64 t12) rfl) _) rfl ?_
      refine WL_nil ?_
      refine nrm ?_
      refine WC_ret ?_
      refine rtE ?_
      exact gv1 rfl rfl h

/-- spacecraft serial.Add -/
def F29 (a1 : Int) (n2 : Int) (bits3 : Int) (w4 : World) (k : Value → World → Prop) : Prop :=
  Does Try.prog 33 #[.int .i64 a1, .int .i64 bits3] w4 (fun v w5 => ∃ (x6 : Bool), v = .bool x6 ∧ if (!x6) = true then
  k (.int .i64 0) w5
else
  (0 : Int) ≤ bits3 ∧ shl .u64 1 bits3 ≠ 0 ∧ k (.int .i64 (IntKind.i64.wrap (Int.tmod (IntKind.u64.wrap ((IntKind.u64.wrap a1) + (IntKind.u64.wrap n2))) (shl .u64 1 bits3)))) w5)
set_option maxRecDepth 100000 in
set_option maxHeartbeats 2000000 in
theorem w29 (a1 : Int) (n2 : Int) (bits3 : Int) (w4 : World) (k : Value → World → Prop) (h : F29 a1 n2 bits3 w4 k) : Does Try.prog 29 #[.int .i64 a1, .int .i64 n2, .int .i64 bits3] w4 k := by
  refine enter 20 Try.func29 rfl rfl rfl ?_
  intro ρ hρ
  have e0 := hρ 0 _ rfl
  have e1 := hρ 1 _ rfl
  have e2 := hρ 2 _ rfl
  unfold F29 at h
  refine WC_seq ?_
  refine WC_region ?_
  refine WL_val gd0 ((o_assign (v := .int .i64 0) rfl) _) rfl ?_
  refine WL_nil ?_
  refine nrm ?_
  refine WC_seq ?_
  refine WC_seq ?_
  refine WC_region ?_
  refine WL_val gd0 ((o_move (v := .int .i64 a1) (by exact e0)) _) rfl ?_
  refine WL_val gd0 ((o_move (v := .int .i64 bits3) (by exact e2)) _) rfl ?_
  refine WL_call gd0 (o_call Try.call33 (argCons rfl (argCons rfl argNil)) _) rfl (h.mono ?_)
  rintro _ w5 ⟨x6, rfl, h⟩
  refine WL_val gd0 ((o_not rfl) _) rfl ?_
  refine WL_nil ?_
  refine nrm ?_
  refine WC_cond (t := (!x6)) rfl (fun hb7 => ?_) (fun hb7 => ?_)
  · rw [if_pos hb7] at h
    refine WC_seq ?_
    refine WC_region ?_
    refine WL_val gd0 ((o_assign (v := .int .i64 0) rfl) _) rfl ?_
    refine WL_nil ?_
    refine nrm ?_
    refine WC_ret ?_
    refine rtT ?_
    refine rtE ?_
    exact gv1 rfl rfl h
  · rw [if_neg (neT hb7)] at h
    refine WC_skip ?_
    refine nrm ?_
    refine WC_seq ?_
    refine WC_region ?_
    refine WL_val gd0 ((o_move (v := .int .i64 a1) (by exact e0)) _) rfl ?_
    refine WL_val gd0 ((o_conv Try.underlying3 Try.underlying69 rfl) _) rfl ?_
    refine WL_val gd0 ((o_move (v := .int .i64 n2) (by exact e1)) _) rfl ?_
    refine WL_val gd0 ((o_conv Try.underlying3 Try.underlying69 rfl) _) rfl ?_
    refine WL_val gd0 ((o_add rfl rfl) _) rfl ?_
    refine WL_val gd0 ((o_move (v := .int .i64 bits3) (by exact e2)) _) rfl ?_
    obtain ⟨c8, h⟩ := h
    refine WL_val gd0 ((o_shl rfl rfl c8) _) rfl ?_
    obtain ⟨c9, h⟩ := h
    refine WL_val gd0 ((fun w => o_rem rfl rfl w c9) _) rfl ?_
    refine WL_val gd0 ((o_conv Try.underlying69 Try.underlying3 rfl) _) rfl ?_
    refine WL_val gd0 ((o_assign (v := .int .i64 (IntKind.i64.wrap (Int.tmod (IntKind.u64.wrap ((IntKind.u64.wrap a1) + (IntKind.u64.wrap n2))) (shl .u64 1 bits3)))) rfl) _) rfl ?_
    refine WL_nil ?_
    refine nrm ?_
    refine WC_ret ?_
    refine rtE ?_
    exact gv1 rfl rfl h

/-- spacecraft unpacker.length -/
def F30 (b_a1 : Option Addr) (b_n2 : Nat) (b_c3 : Nat) (w4 : World) (k : Value → World → Prop) : Prop :=
  ∃ (p7 : Addr), b_a1 = some p7 ∧ (0 : Int) ≤ 4 ∧ 4 < (b_n2 : Int) ∧ ∃ (x9 : Int), w4.drew.cell? (p7.add ((4 : Int).toNat)) = some (.int .u8 x9) ∧ (0 : Int) ≤ 5 ∧ 5 < (b_n2 : Int) ∧ ∃ (x13 : Int), w4.drew.cell? (p7.add ((5 : Int).toNat)) = some (.int .u8 x13) ∧ (0 : Int) ≤ 0 ∧ 0 < (b_n2 : Int) ∧ ∃ (x17 : Int), w4.drew.cell? (p7.add ((0 : Int).toNat)) = some (.int .u8 x17) ∧ if (shr .u8 x17 5) = 0 then
  k (.tuple #[.int .i64 (IntKind.i64.wrap ((IntKind.i64.wrap (7 + (shl .i64 (IntKind.i64.wrap x9) 8))) + (IntKind.i64.wrap x13))), .bool (decide ((IntKind.i64.wrap ((IntKind.i64.wrap (7 + (shl .i64 (IntKind.i64.wrap x9) 8))) + (IntKind.i64.wrap x13))) ≤ 4096))]) w4.drew
else
  k (.tuple #[.int .i64 (IntKind.i64.wrap ((IntKind.i64.wrap (7 + (shl .i64 (IntKind.i64.wrap x9) 8))) + (IntKind.i64.wrap x13))), .bool false]) w4.drew
set_option maxRecDepth 100000 in
set_option maxHeartbeats 2000000 in
theorem w30 (b_a1 : Option Addr) (b_n2 : Nat) (b_c3 : Nat) (w4 : World) (k : Value → World → Prop) (h : F30 b_a1 b_n2 b_c3 w4 k) : Does Try.prog 30 #[.slice b_a1 b_n2 b_c3] w4 k := by
  refine enter 26 Try.func30 rfl rfl rfl ?_
  intro ρ hρ
  have e0 := hρ 0 _ rfl
  unfold F30 at h
  refine WC_seq ?_
  refine WC_region ?_
  refine WL_val gd0 ((o_assign (v := .int .i64 0) rfl) _) rfl ?_
  refine WL_val gd0 ((o_assign (v := .bool false) rfl) _) rfl ?_
  refine WL_nil ?_
  refine nrm ?_
  refine WC_seq ?_
  refine WC_draws [] (.look 0 (.look 1 (.look 2 (.look 3 (.look 4 (.look 5 (.look 6 (.look 7 (.look 8 (.look 9 (.look 10 (.look 11 .nil)))))))))))) Try.mixed (by kernel_rfl) ?_
  refine WQ_val rfl gd0 (o_move (v := .slice b_a1 b_n2 b_c3) (by exact e0)) rfl ?_
  obtain ⟨p7, q8, h⟩ := h
  obtain ⟨l5, u6, h⟩ := h
  refine WQ_val rfl gd0 (o_indexAddr1 Try.underlying29 Try.sizeOf5 (by exact (congrArg (fun z => Value.slice z b_n2 b_c3) q8)) rfl l5 u6) rfl ?_
  obtain ⟨x9, hc10, h⟩ := h
  refine WQ_look (fun w => w.cell? (p7.add ((4 : Int).toNat)) = some (.int .u8 x9)) rfl gd0 (fun w hc => (o_load Try.isAgg5 rfl hc)) hc10 rfl ?_
  refine WQ_val rfl gd0 (o_conv Try.underlying5 Try.underlying3 rfl) rfl ?_
  refine WQ_val rfl gd0 (o_shl rfl rfl (by decide)) rfl ?_
  refine WQ_val rfl gd0 (o_add rfl rfl) rfl ?_
  refine WQ_val rfl gd0 (o_move (v := .slice b_a1 b_n2 b_c3) (by exact e0)) rfl ?_
  obtain ⟨l11, u12, h⟩ := h
  refine WQ_val rfl gd0 (o_indexAddr1 Try.underlying29 Try.sizeOf5 (by exact (congrArg (fun z => Value.slice z b_n2 b_c3) q8)) rfl l11 u12) rfl ?_
  obtain ⟨x13, hc14, h⟩ := h
  refine WQ_look (fun w => w.cell? (p7.add ((5 : Int).toNat)) = some (.int .u8 x13)) rfl gd0 (fun w hc => (o_load Try.isAgg5 rfl hc)) hc14 rfl ?_
  refine WQ_val rfl gd0 (o_conv Try.underlying5 Try.underlying3 rfl) rfl ?_
  refine WQ_val rfl gd0 (o_add rfl rfl) rfl ?_
  refine WQ_val rfl gd0 (o_assign (v := .int .i64 (IntKind.i64.wrap ((IntKind.i64.wrap (7 + (shl .i64 (IntKind.i64.wrap x9) 8))) + (IntKind.i64.wrap x13)))) rfl) rfl ?_
  refine WQ_nil ?_
  refine nrm ?_
  refine WC_seq ?_
  refine WC_region ?_
  refine WL_val gd0 ((o_move (v := .int .i64 (IntKind.i64.wrap ((IntKind.i64.wrap (7 + (shl .i64 (IntKind.i64.wrap x9) 8))) + (IntKind.i64.wrap x13)))) rfl) _) rfl ?_
  refine WL_val gd0 ((o_move (v := .slice b_a1 b_n2 b_c3) (by exact e0)) _) rfl ?_
  obtain ⟨l15, u16, h⟩ := h
  refine WL_val gd0 ((o_indexAddr1 Try.underlying29 Try.sizeOf5 (by exact (congrArg (fun z => Value.slice z b_n2 b_c3) q8)) rfl l15 u16) _) rfl ?_
  obtain ⟨x17, hc18, h⟩ := h
  refine WL_val gd0 (o_load Try.isAgg5 rfl hc18) rfl ?_
  refine WL_val gd0 ((o_shr rfl rfl (by decide)) _) rfl ?_
  refine WL_val gd0 ((o_eql rfl rfl) _) rfl ?_
  refine WL_val gd0 ((o_move (v := .bool (decide ((shr .u8 x17 5) = 0))) rfl) _) rfl ?_
  refine bsplit (decide ((shr .u8 x17 5) = 0)) (fun hb19 => ?_) (fun hb19 => ?_)
  · rw [if_pos (of_decide_eq_true hb19)] at h
    refine WL_val (gdY (b := (decide ((shr .u8 x17 5) = 0))) 22 rfl rfl hb19) ((o_move (v := .int .i64 (IntKind.i64.wrap ((IntKind.i64.wrap (7 + (shl .i64 (IntKind.i64.wrap x9) 8))) + (IntKind.i64.wrap x13)))) rfl) _) rfl ?_
    refine WL_val (gdY (b := (decide ((shr .u8 x17 5) = 0))) 22 rfl rfl hb19) ((o_leq rfl rfl) _) rfl ?_
    refine WL_val gd0 ((o_pickT (v := .bool (decide ((IntKind.i64.wrap ((IntKind.i64.wrap (7 + (shl .i64 (IntKind.i64.wrap x9) 8))) + (IntKind.i64.wrap x13))) ≤ 4096))) rfl hb19 rfl) _) rfl ?_
    refine WL_val gd0 ((o_assign (v := .int .i64 (IntKind.i64.wrap ((IntKind.i64.wrap (7 + (shl .i64 (IntKind.i64.wrap x9) 8))) + (IntKind.i64.wrap x13)))) rfl) _) rfl ?_
    refine WL_val gd0 ((o_assign (v := .bool (decide ((IntKind.i64.wrap ((IntKind.i64.wrap (7 + (shl .i64 (IntKind.i64.wrap x9) 8))) + (IntKind.i64.wrap x13))) ≤ 4096))) rfl) _) rfl ?_
    refine WL_nil ?_
    refine nrm ?_
    refine WC_ret ?_
    refine rtE ?_
    exact gv2 rfl rfl rfl h
  · rw [if_neg (of_decide_eq_false hb19)] at h
    refine WL_skip (gdN (b := (decide ((shr .u8 x17 5) = 0))) 22 rfl rfl hb19) rfl ?_
    refine WL_skip (gdN (b := (decide ((shr .u8 x17 5) = 0))) 22 rfl rfl hb19) rfl ?_
    refine WL_val gd0 ((o_pickF (v := .bool false) rfl hb19 rfl) _) rfl ?_
    refine WL_val gd0 ((o_assign (v := .int .i64 (IntKind.i64.wrap ((IntKind.i64.wrap (7 + (shl .i64 (IntKind.i64.wrap x9) 8))) + (IntKind.i64.wrap x13)))) rfl) _) rfl ?_
    refine WL_val gd0 ((o_assign (v := .bool false) rfl) _) rfl ?_
    refine WL_nil ?_
    refine nrm ?_
    refine WC_ret ?_
    refine rtE ?_
    exact gv2 rfl rfl rfl h

def F31_j1 (n4 : Int) (s_c3 : Nat) (s_n2 : Nat) (s_a1 : Option Addr) (w8 : World) (k : Value → World → Prop) : Prop :=
  if 0 < (IntKind.i64.wrap (n4 - (IntKind.i64.wrap ((s_c3 : Int) - (s_n2 : Int))))) then
  (0 : Int) ≤ (s_c3 : Int) ∧ (s_c3 : Int) ≤ (s_c3 : Int) ∧ ∃ (b_a12 : Option Addr) (b_n13 b_c14 : Nat) (w15 : World), (Builtin.append_ #[29, 3] 29 #[.slice s_a1 ((s_c3 : Int).toNat) s_c3, .int .i64 (IntKind.i64.wrap (n4 - (IntKind.i64.wrap ((s_c3 : Int) - (s_n2 : Int)))))]).run Try.prog w8 = .ok (.slice b_a12 b_n13 b_c14) w15 ∧ (0 : Int) ≤ (s_n2 : Int) ∧ (s_n2 : Int) ≤ (b_c14 : Int) ∧ k (.slice b_a12 ((s_n2 : Int).toNat) b_c14) w15
else
  k (.slice s_a1 s_n2 s_c3) w8
/-- slices.Grow   byte,byte  -/
def F31 (s_a1 : Option Addr) (s_n2 : Nat) (s_c3 : Nat) (n4 : Int) (w5 : World) (k : Value → World → Prop) : Prop :=
  if n4 < 0 then
  False
else
  F31_j1 n4 s_c3 s_n2 s_a1 w5 k
set_option maxRecDepth 100000 in
set_option maxHeartbeats 2000000 in
theorem w31 (s_a1 : Option Addr) (s_n2 : Nat) (s_c3 : Nat) (n4 : Int) (w5 : World) (k : Value → World → Prop) (h : F31 s_a1 s_n2 s_c3 n4 w5 k) : Does Try.prog 31 #[.slice s_a1 s_n2 s_c3, .int .i64 n4] w5 k := by
  refine enter 27 Try.func31 rfl rfl rfl ?_
  intro ρ hρ
  have e0 := hρ 0 _ rfl
  have e1 := hρ 1 _ rfl
  unfold F31 at h
  refine WC_seq ?_
  refine WC_region ?_
  refine WL_val gd0 ((o_assign (v := .slice none 0 0) rfl) _) rfl ?_
  refine WL_nil ?_
  refine nrm ?_
  refine WC_cut (fun ρ w' => ρ 0 = .slice s_a1 s_n2 s_c3 ∧ ρ 1 = .int .i64 n4 ∧ F31_j1 n4 s_c3 s_n2 s_a1 w' k) ?_ ?_
  · refine WC_seq ?_
    refine WC_region ?_
    refine WL_val gd0 ((o_move (v := .int .i64 n4) (by exact e1)) _) rfl ?_
    refine WL_val gd0 ((o_lss rfl rfl) _) rfl ?_
    refine WL_nil ?_
    refine nrm ?_
    refine WC_cond (t := (decide (n4 < 0))) rfl (fun hb19 => ?_) (fun hb19 => ?_)
    · rw [if_pos (of_decide_eq_true hb19)] at h
      refine WC_region ?_
      refine WL_val gd0 ((o_makeInterface (v := .string (ByteArray.mk #[99, 97, 110, 110, 111, 116, 32, 98, 101, 32, 110, 101, 103, 97, 116, 105, 118, 101])) rfl (fun w => by kernel_rfl)) _) rfl ?_
      exact h.elim
    · rw [if_neg (of_decide_eq_false hb19)] at h
      refine WC_skip ?_
      refine nrm ?_
      exact ⟨e0, e1, h⟩
  · rintro ρ w8 ⟨e0_6, e1_7, h⟩
    unfold F31_j1 at h
    refine WC_seq ?_
    refine WC_seq ?_
    refine WC_region ?_
    refine WL_val gd0 ((o_move (v := .int .i64 n4) (by exact e1_7)) _) rfl ?_
    refine WL_val gd0 ((o_move (v := .slice s_a1 s_n2 s_c3) (by exact e0_6)) _) rfl ?_
    refine WL_val gd0 ((o_cap Try.underlying29 rfl (fun w => by kernel_rfl)) _) rfl ?_
    refine WL_val gd0 ((o_move (v := .slice s_a1 s_n2 s_c3) (by exact e0_6)) _) rfl ?_
    refine WL_val gd0 ((o_len Try.underlying29 rfl) _) rfl ?_
    refine WL_val gd0 ((o_sub rfl rfl) _) rfl ?_
    refine WL_val gd0 ((o_sub rfl rfl) _) rfl ?_
    refine WL_val gd0 ((o_assign (v := .int .i64 (IntKind.i64.wrap (n4 - (IntKind.i64.wrap ((s_c3 : Int) - (s_n2 : Int)))))) rfl) _) rfl ?_
    refine WL_nil ?_
    refine nrm ?_
    refine WC_seq ?_
    refine WC_region ?_
    refine WL_val gd0 ((o_move (v := .int .i64 (IntKind.i64.wrap (n4 - (IntKind.i64.wrap ((s_c3 : Int) - (s_n2 : Int)))))) rfl) _) rfl ?_
    refine WL_val gd0 ((o_gtr rfl rfl) _) rfl ?_
    refine WL_nil ?_
    refine nrm ?_
    refine WC_cond (t := (decide (0 < (IntKind.i64.wrap (n4 - (IntKind.i64.wrap ((s_c3 : Int) - (s_n2 : Int)))))))) rfl (fun hb9 => ?_) (fun hb9 => ?_)
    · rw [if_pos (of_decide_eq_true hb9)] at h
      refine WC_region ?_
      refine WL_val gd0 ((o_move (v := .slice s_a1 s_n2 s_c3) (by exact e0_6)) _) rfl ?_
      refine WL_val gd0 ((o_move (v := .slice s_a1 s_n2 s_c3) (by exact e0_6)) _) rfl ?_
      refine WL_val gd0 ((o_cap Try.underlying29 rfl (fun w => by kernel_rfl)) _) rfl ?_
      obtain ⟨c10, c11, h⟩ := h
      refine WL_val gd0 ((o_sliceH Try.underlying29 Try.sizeOf5 rfl rfl c10 c11) _) rfl ?_
      refine WL_val gd0 ((o_move (v := .int .i64 (IntKind.i64.wrap (n4 - (IntKind.i64.wrap ((s_c3 : Int) - (s_n2 : Int)))))) rfl) _) rfl ?_
      obtain ⟨b_a12, b_n13, b_c14, w15, r16, h⟩ := h
      refine WL_val gd0 (o_append rfl rfl r16) rfl ?_
      refine WL_val gd0 ((o_move (v := .slice s_a1 s_n2 s_c3) (by exact e0_6)) _) rfl ?_
      refine WL_val gd0 ((o_len Try.underlying29 rfl) _) rfl ?_
      obtain ⟨c17, c18, h⟩ := h
      refine WL_val gd0 ((o_sliceH Try.underlying29 Try.sizeOf5 rfl rfl c17 c18) _) rfl ?_
      refine WL_val gd0 ((o_assign (v := .slice b_a12 ((s_n2 : Int).toNat) b_c14) rfl) _) rfl ?_
      refine WL_nil ?_
      refine nrm ?_
      refine WC_seq ?_
      refine WC_region ?_
      refine WL_val gd0 ((o_move (v := .slice b_a12 ((s_n2 : Int).toNat) b_c14) rfl) _) rfl ?_
      refine WL_val gd0 ((o_assign (v := .slice b_a12 ((s_n2 : Int).toNat) b_c14) rfl) _) rfl ?_
      refine WL_nil ?_
      refine nrm ?_
      refine WC_ret ?_
      refine rtE ?_
      exact gv1 rfl rfl h
    · rw [if_neg (of_decide_eq_false hb9)] at h
      refine WC_skip ?_
      refine nrm ?_
      refine WC_seq ?_
      refine WC_region ?_
      refine WL_val gd0 ((o_move (v := .slice s_a1 s_n2 s_c3) (by exact e0_6)) _) rfl ?_
      refine WL_val gd0 ((o_assign (v := .slice s_a1 s_n2 s_c3) rfl) _) rfl ?_
      refine WL_nil ?_
      refine nrm ?_
      refine WC_ret ?_
      refine rtE ?_
      exact gv1 rfl rfl h

def F32_b1 (sep_a4 : Option Addr) (sep_n5 : Nat) (sep_c6 : Nat) (s_a22 : Option Addr) (s_n23 : Nat) (s_c24 : Nat) (n27 : Int) (w28 : World) (k : Value → World → Prop) (nx28 : Option Addr → Nat → Nat → Int → World → Prop) : Prop :=
  Does Try.prog 36 #[.slice s_a22 s_n23 s_c24, .slice sep_a4 sep_n5 sep_c6] w28 (fun v w30 => ∃ (i31 : Int), v = .int .i64 i31 ∧ if i31 = (-1) then
  k (.int .i64 n27) w30
else
  (0 : Int) ≤ IntKind.i64.wrap (i31 + (sep_n5 : Int)) ∧ IntKind.i64.wrap (i31 + (sep_n5 : Int)) ≤ (s_n23 : Int) ∧ nx28 (cutA s_a22 s_c24 ((IntKind.i64.wrap (i31 + (sep_n5 : Int))).toNat) 1) (s_n23 - (IntKind.i64.wrap (i31 + (sep_n5 : Int))).toNat) (s_c24 - (IntKind.i64.wrap (i31 + (sep_n5 : Int))).toNat) (IntKind.i64.wrap (n27 + 1)) w30)
/-- bytes.Count -/
def F32 (s_a1 : Option Addr) (s_n2 : Nat) (s_c3 : Nat) (sep_a4 : Option Addr) (sep_n5 : Nat) (sep_c6 : Nat) (w7 : World) (k : Value → World → Prop) : Prop :=
  if (sep_n5 : Int) = 0 then
  Does Try.prog 34 #[.slice s_a1 s_n2 s_c3] w7 (fun v w9 => ∃ (x10 : Int), v = .int .i64 x10 ∧ k (.int .i64 (IntKind.i64.wrap (x10 + 1))) w9)
else
  if (sep_n5 : Int) = 1 then
    ∃ (p14 : Addr), sep_a4 = some p14 ∧ (0 : Int) ≤ 0 ∧ 0 < (sep_n5 : Int) ∧ ∃ (x16 : Int), w7.cell? (p14.add ((0 : Int).toNat)) = some (.int .u8 x16) ∧ ∃ (t18 : Int) (w19 : World), (callFunc 35 #[.slice s_a1 s_n2 s_c3, .int .u8 x16]).run Try.prog w7 = .ok (.value (.int .i64 t18)) w19 ∧ k (.int .i64 t18) w19
  else
    LoopP (fun (s : Option Addr × Nat × Nat × Int) w' nx' => F32_b1 sep_a4 sep_n5 sep_c6 (s.1) (s.2.1) (s.2.2.1) (s.2.2.2) w' k (fun x0 x1 x2 x3 w => nx' (x0, x1, x2, x3) w)) (s_a1, s_n2, s_c3, 0) w7
set_option maxRecDepth 100000 in
set_option maxHeartbeats 2000000 in
theorem w32 (s_a1 : Option Addr) (s_n2 : Nat) (s_c3 : Nat) (sep_a4 : Option Addr) (sep_n5 : Nat) (sep_c6 : Nat) (w7 : World) (k : Value → World → Prop) (h : F32 s_a1 s_n2 s_c3 sep_a4 sep_n5 sep_c6 w7 k) : Does Try.prog 32 #[.slice s_a1 s_n2 s_c3, .slice sep_a4 sep_n5 sep_c6] w7 k := by
  refine enter 35 Try.func32 rfl rfl rfl ?_
  intro ρ hρ
  have e0 := hρ 0 _ rfl
  have e1 := hρ 1 _ rfl
  unfold F32 at h
  refine WC_seq ?_
  refine WC_region ?_
  refine WL_val gd0 ((o_assign (v := .int .i64 0) rfl) _) rfl ?_
  refine WL_nil ?_
  refine nrm ?_
  refine WC_seq ?_
  refine WC_seq ?_
  refine WC_region ?_
  refine WL_val gd0 ((o_move (v := .slice sep_a4 sep_n5 sep_c6) (by exact e1)) _) rfl ?_
  refine WL_val gd0 ((o_len Try.underlying29 rfl) _) rfl ?_
  refine WL_val gd0 ((o_eql rfl rfl) _) rfl ?_
  refine WL_nil ?_
  refine nrm ?_
  refine WC_cond (t := (decide ((sep_n5 : Int) = 0))) rfl (fun hb8 => ?_) (fun hb8 => ?_)
  · rw [if_pos (of_decide_eq_true hb8)] at h
    refine WC_seq ?_
    refine WC_region ?_
    refine WL_val gd0 ((o_move (v := .slice s_a1 s_n2 s_c3) (by exact e0)) _) rfl ?_
    refine WL_call gd0 (o_call Try.call34 (argCons rfl argNil) _) rfl (h.mono ?_)
    rintro _ w9 ⟨x10, rfl, h⟩
    refine WL_val gd0 ((o_add rfl rfl) _) rfl ?_
    refine WL_val gd0 ((o_assign (v := .int .i64 (IntKind.i64.wrap (x10 + 1))) rfl) _) rfl ?_
    refine WL_nil ?_
    refine nrm ?_
    refine WC_ret ?_
    refine rtT ?_
    refine rtE ?_
    exact gv1 rfl rfl h
  · rw [if_neg (of_decide_eq_false hb8)] at h
    refine WC_skip ?_
    refine nrm ?_
    refine WC_seq ?_
    refine WC_seq ?_
    refine WC_region ?_
    refine WL_val gd0 ((o_move (v := .slice sep_a4 sep_n5 sep_c6) (by exact e1)) _) rfl ?_
    refine WL_val gd0 ((o_len Try.underlying29 rfl) _) rfl ?_
    refine WL_val gd0 ((o_eql rfl rfl) _) rfl ?_
    refine WL_nil ?_
    refine nrm ?_
    refine WC_cond (t := (decide ((sep_n5 : Int) = 1))) rfl (fun hb11 => ?_) (fun hb11 => ?_)
    · rw [if_pos (of_decide_eq_true hb11)] at h
      refine WC_seq ?_
      refine WC_region ?_
      refine WL_val gd0 ((o_move (v := .slice s_a1 s_n2 s_c3) (by exact e0)) _) rfl ?_
      refine WL_val gd0 ((o_move (v := .slice sep_a4 sep_n5 sep_c6) (by exact e1)) _) rfl ?_
      obtain ⟨p14, q15, h⟩ := h
      obtain ⟨l12, u13, h⟩ := h
      refine WL_val gd0 ((o_indexAddr1 Try.underlying29 Try.sizeOf5 (by exact (congrArg (fun z => Value.slice z sep_n5 sep_c6) q15)) rfl l12 u13) _) rfl ?_
      obtain ⟨x16, hc17, h⟩ := h
      refine WL_val gd0 (o_load Try.isAgg5 rfl hc17) rfl ?_
      obtain ⟨t18, w19, r20, h⟩ := h
      refine WL_val gd0 (o_callExt (argCons rfl (argCons rfl argNil)) r20) rfl ?_
      refine WL_val gd0 ((o_assign (v := .int .i64 t18) rfl) _) rfl ?_
      refine WL_nil ?_
      refine nrm ?_
      refine WC_ret ?_
      refine rtT ?_
      refine rtE ?_
      exact gv1 rfl rfl h
    · rw [if_neg (of_decide_eq_false hb11)] at h
      refine WC_skip ?_
      refine nrm ?_
      refine WC_seq ?_
      refine WC_region ?_
      refine WL_val gd0 ((o_assign (v := .int .i64 0) rfl) _) rfl ?_
      refine WL_nil ?_
      refine nrm ?_
      refine WC_block ?_
      obtain ⟨J28, ⟨n28, h0⟩, hr28⟩ := h
      refine WC_loop (fun n ρ w' => ∃ (s_a22 : Option Addr) (s_n23 s_c24 : Nat) (n27 : Int), ρ 0 = .slice s_a22 s_n23 s_c24 ∧ ρ 5 = .int .i64 n27 ∧ ρ 1 = .slice sep_a4 sep_n5 sep_c6 ∧ J28 n (s_a22, s_n23, s_c24, n27) w') ⟨n28, _, _, _, _, e0, rfl, e1, h0⟩ ?_
      rintro n28 ρ w28 ⟨s_a22, s_n23, s_c24, n27, e0_21, e5_26, e1_25, h⟩
      have h : F32_b1 sep_a4 sep_n5 sep_c6 s_a22 s_n23 s_c24 n27 w28 k (fun x0 x1 x2 x3 w => ∃ m, m < n28 ∧ J28 m (x0, x1, x2, x3) w) := hr28 n28 (s_a22, s_n23, s_c24, n27) w28 h
      unfold F32_b1 at h
      refine WC_block ?_
      refine WC_seq ?_
      refine WC_region ?_
      refine WL_val gd0 ((o_move (v := .slice s_a22 s_n23 s_c24) (by exact e0_21)) _) rfl ?_
      refine WL_val gd0 ((o_move (v := .slice sep_a4 sep_n5 sep_c6) (by exact e1_25)) _) rfl ?_
      refine WL_call gd0 (o_call Try.call36 (argCons rfl (argCons rfl argNil)) _) rfl (h.mono ?_)
      rintro _ w30 ⟨i31, rfl, h⟩
      refine WL_val gd0 ((o_assign (v := .int .i64 i31) rfl) _) rfl ?_
      refine WL_nil ?_
      refine nrm ?_
      refine WC_seq ?_
      refine WC_seq ?_
      refine WC_region ?_
      refine WL_val gd0 ((o_move (v := .int .i64 i31) rfl) _) rfl ?_
      refine WL_val gd0 ((o_eql rfl rfl) _) rfl ?_
      refine WL_nil ?_
      refine nrm ?_
      refine WC_cond (t := (decide (i31 = (-1)))) rfl (fun hb32 => ?_) (fun hb32 => ?_)
      · rw [if_pos (of_decide_eq_true hb32)] at h
        refine WC_seq ?_
        refine WC_region ?_
        refine WL_val gd0 ((o_move (v := .int .i64 n27) (by exact e5_26)) _) rfl ?_
        refine WL_val gd0 ((o_assign (v := .int .i64 n27) rfl) _) rfl ?_
        refine WL_nil ?_
        refine nrm ?_
        refine WC_ret ?_
        refine rtT ?_
        refine rtB ?_
        refine rtT ?_
        refine rtB ?_
        refine rtE ?_
        exact gv1 rfl rfl h
      · rw [if_neg (of_decide_eq_false hb32)] at h
        refine WC_skip ?_
        refine nrm ?_
        refine WC_seq ?_
        refine WC_region ?_
        refine WL_val gd0 ((o_move (v := .int .i64 n27) (by exact e5_26)) _) rfl ?_
        refine WL_val gd0 ((o_add rfl rfl) _) rfl ?_
        refine WL_val gd0 ((o_assign (v := .int .i64 (IntKind.i64.wrap (n27 + 1))) rfl) _) rfl ?_
        refine WL_nil ?_
        refine nrm ?_
        refine WC_region ?_
        refine WL_val gd0 ((o_move (v := .slice s_a22 s_n23 s_c24) (by exact e0_21)) _) rfl ?_
        refine WL_val gd0 ((o_move (v := .int .i64 i31) rfl) _) rfl ?_
        refine WL_val gd0 ((o_move (v := .slice sep_a4 sep_n5 sep_c6) (by exact e1_25)) _) rfl ?_
        refine WL_val gd0 ((o_len Try.underlying29 rfl) _) rfl ?_
        refine WL_val gd0 ((o_add rfl rfl) _) rfl ?_
        obtain ⟨c33, c34, h⟩ := h
        refine WL_val gd0 ((o_sliceL Try.underlying29 Try.sizeOf5 rfl rfl c33 c34) _) rfl ?_
        refine WL_val gd0 ((o_assign (v := .slice (cutA s_a22 s_c24 ((IntKind.i64.wrap (i31 + (sep_n5 : Int))).toNat) 1) (s_n23 - (IntKind.i64.wrap (i31 + (sep_n5 : Int))).toNat) (s_c24 - (IntKind.i64.wrap (i31 + (sep_n5 : Int))).toNat)) rfl) _) rfl ?_
        refine WL_nil ?_
        refine nrmB ?_
        refine nrm ?_
        obtain ⟨m29, hm29, h⟩ := h
        exact ⟨m29, hm29, _, _, _, _, rfl, rfl, e1_25, h⟩

/-- spacecraft serial.Valid -/
def F33 (n1 : Int) (bits2 : Int) (w3 : World) (k : Value → World → Prop) : Prop :=
  if 1 ≤ bits2 then
  if bits2 ≤ 32 then
    if 0 ≤ n1 then
      (0 : Int) ≤ bits2 ∧ k (.bool (decide (n1 < (shl .i64 1 bits2)))) w3
    else
      k (.bool false) w3
  else
    k (.bool false) w3
else
  k (.bool false) w3
set_option maxRecDepth 100000 in
set_option maxHeartbeats 2000000 in
theorem w33 (n1 : Int) (bits2 : Int) (w3 : World) (k : Value → World → Prop) (h : F33 n1 bits2 w3 k) : Does Try.prog 33 #[.int .i64 n1, .int .i64 bits2] w3 k := by
  refine enter 21 Try.func33 rfl rfl rfl ?_
  intro ρ hρ
  have e0 := hρ 0 _ rfl
  have e1 := hρ 1 _ rfl
  unfold F33 at h
  refine WC_seq ?_
  refine WC_region ?_
  refine WL_val gd0 ((o_assign (v := .bool false) rfl) _) rfl ?_
  refine WL_nil ?_
  refine nrm ?_
  refine WC_seq ?_
  refine WC_region ?_
  refine WL_val gd0 ((o_move (v := .int .i64 bits2) (by exact e1)) _) rfl ?_
  refine WL_val gd0 ((o_geq rfl rfl) _) rfl ?_
  refine WL_val gd0 ((o_move (v := .bool (decide (1 ≤ bits2))) rfl) _) rfl ?_
  refine bsplit (decide (1 ≤ bits2)) (fun hb4 => ?_) (fun hb4 => ?_)
  · rw [if_pos (of_decide_eq_true hb4)] at h
    refine WL_val (gdY (b := (decide (1 ≤ bits2))) 7 rfl rfl hb4) ((o_move (v := .int .i64 bits2) (by exact e1)) _) rfl ?_
    refine WL_val (gdY (b := (decide (1 ≤ bits2))) 7 rfl rfl hb4) ((o_leq rfl rfl) _) rfl ?_
    refine WL_val gd0 ((o_pickT (v := .bool (decide (bits2 ≤ 32))) rfl hb4 rfl) _) rfl ?_
    refine WL_val gd0 ((o_move (v := .bool (decide (bits2 ≤ 32))) rfl) _) rfl ?_
    refine bsplit (decide (bits2 ≤ 32)) (fun hb5 => ?_) (fun hb5 => ?_)
    · rw [if_pos (of_decide_eq_true hb5)] at h
      refine WL_val (gdY (b := (decide (bits2 ≤ 32))) 11 rfl rfl hb5) ((o_move (v := .int .i64 n1) (by exact e0)) _) rfl ?_
      refine WL_val (gdY (b := (decide (bits2 ≤ 32))) 11 rfl rfl hb5) ((o_geq rfl rfl) _) rfl ?_
      refine WL_val gd0 ((o_pickT (v := .bool (decide (0 ≤ n1))) rfl hb5 rfl) _) rfl ?_
      refine WL_val gd0 ((o_move (v := .bool (decide (0 ≤ n1))) rfl) _) rfl ?_
      refine bsplit (decide (0 ≤ n1)) (fun hb6 => ?_) (fun hb6 => ?_)
      · rw [if_pos (of_decide_eq_true hb6)] at h
        refine WL_val (gdY (b := (decide (0 ≤ n1))) 15 rfl rfl hb6) ((o_move (v := .int .i64 n1) (by exact e0)) _) rfl ?_
        refine WL_val (gdY (b := (decide (0 ≤ n1))) 15 rfl rfl hb6) ((o_move (v := .int .i64 bits2) (by exact e1)) _) rfl ?_
        obtain ⟨c7, h⟩ := h
        refine WL_val (gdY (b := (decide (0 ≤ n1))) 15 rfl rfl hb6) ((o_shl rfl rfl c7) _) rfl ?_
        refine WL_val (gdY (b := (decide (0 ≤ n1))) 15 rfl rfl hb6) ((o_lss rfl rfl) _) rfl ?_
        refine WL_val gd0 ((o_pickT (v := .bool (decide (n1 < (shl .i64 1 bits2)))) rfl hb6 rfl) _) rfl ?_
        refine WL_val gd0 ((o_assign (v := .bool (decide (n1 < (shl .i64 1 bits2)))) rfl) _) rfl ?_
        refine WL_nil ?_
        refine nrm ?_
        refine WC_ret ?_
        refine rtE ?_
        exact gv1 rfl rfl h
      · rw [if_neg (of_decide_eq_false hb6)] at h
        refine WL_skip (gdN (b := (decide (0 ≤ n1))) 15 rfl rfl hb6) rfl ?_
        refine WL_skip (gdN (b := (decide (0 ≤ n1))) 15 rfl rfl hb6) rfl ?_
        refine WL_skip (gdN (b := (decide (0 ≤ n1))) 15 rfl rfl hb6) rfl ?_
        refine WL_skip (gdN (b := (decide (0 ≤ n1))) 15 rfl rfl hb6) rfl ?_
        refine WL_val gd0 ((o_pickF (v := .bool false) rfl hb6 rfl) _) rfl ?_
        refine WL_val gd0 ((o_assign (v := .bool false) rfl) _) rfl ?_
        refine WL_nil ?_
        refine nrm ?_
        refine WC_ret ?_
        refine rtE ?_
        exact gv1 rfl rfl h
    · rw [if_neg (of_decide_eq_false hb5)] at h
      refine WL_skip (gdN (b := (decide (bits2 ≤ 32))) 11 rfl rfl hb5) rfl ?_
      refine WL_skip (gdN (b := (decide (bits2 ≤ 32))) 11 rfl rfl hb5) rfl ?_
      refine WL_val gd0 ((o_pickF (v := .bool false) rfl hb5 rfl) _) rfl ?_
      refine WL_val gd0 ((o_move (v := .bool false) rfl) _) rfl ?_
      refine WL_skip (gdN (b := false) 15 rfl rfl rfl) rfl ?_
      refine WL_skip (gdN (b := false) 15 rfl rfl rfl) rfl ?_
      refine WL_skip (gdN (b := false) 15 rfl rfl rfl) rfl ?_
      refine WL_skip (gdN (b := false) 15 rfl rfl rfl) rfl ?_
      refine WL_val gd0 ((o_pickF (v := .bool false) rfl rfl rfl) _) rfl ?_
      refine WL_val gd0 ((o_assign (v := .bool false) rfl) _) rfl ?_
      refine WL_nil ?_
      refine nrm ?_
      refine WC_ret ?_
      refine rtE ?_
      exact gv1 rfl rfl h
  · rw [if_neg (of_decide_eq_false hb4)] at h
    refine WL_skip (gdN (b := (decide (1 ≤ bits2))) 7 rfl rfl hb4) rfl ?_
    refine WL_skip (gdN (b := (decide (1 ≤ bits2))) 7 rfl rfl hb4) rfl ?_
    refine WL_val gd0 ((o_pickF (v := .bool false) rfl hb4 rfl) _) rfl ?_
    refine WL_val gd0 ((o_move (v := .bool false) rfl) _) rfl ?_
    refine WL_skip (gdN (b := false) 11 rfl rfl rfl) rfl ?_
    refine WL_skip (gdN (b := false) 11 rfl rfl rfl) rfl ?_
    refine WL_val gd0 ((o_pickF (v := .bool false) rfl rfl rfl) _) rfl ?_
    refine WL_val gd0 ((o_move (v := .bool false) rfl) _) rfl ?_
    refine WL_skip (gdN (b := false) 15 rfl rfl rfl) rfl ?_
    refine WL_skip (gdN (b := false) 15 rfl rfl rfl) rfl ?_
    refine WL_skip (gdN (b := false) 15 rfl rfl rfl) rfl ?_
    refine WL_skip (gdN (b := false) 15 rfl rfl rfl) rfl ?_
    refine WL_val gd0 ((o_pickF (v := .bool false) rfl rfl rfl) _) rfl ?_
    refine WL_val gd0 ((o_assign (v := .bool false) rfl) _) rfl ?_
    refine WL_nil ?_
    refine nrm ?_
    refine WC_ret ?_
    refine rtE ?_
    exact gv1 rfl rfl h

def F34_b1 (p_n2 : Nat) (p_a1 : Option Addr) (p_c3 : Nat) (n8 : Int) (w9 : World) (k : Value → World → Prop) (nx9 : Int → World → Prop) : Prop :=
  if n8 < (p_n2 : Int) then
  ∃ (p14 : Addr), p_a1 = some p14 ∧ (0 : Int) ≤ n8 ∧ n8 < (p_n2 : Int) ∧ ∃ (c16 : Int), w9.cell? (p14.add n8.toNat) = some (.int .u8 c16) ∧ if 128 ≤ c16 then
    (0 : Int) ≤ n8 ∧ n8 ≤ (p_n2 : Int) ∧ ∃ (s21 : ByteArray), (Conv.bytesToString (.slice (cutA p_a1 p_c3 n8.toNat 1) (p_n2 - n8.toNat) (p_c3 - n8.toNat))).run Try.prog w9 = .ok (.string s21) w9 ∧ Does Try.prog 37 #[.string s21] w9 (fun v w23 => ∃ (x24 : Int), v = .int .i64 x24 ∧ k (.int .i64 (IntKind.i64.wrap (n8 + x24))) w23)
  else
    nx9 (IntKind.i64.wrap (n8 + 1)) w9
else
  k (.int .i64 n8) w9
/-- unicode utf8.RuneCount -/
def F34 (p_a1 : Option Addr) (p_n2 : Nat) (p_c3 : Nat) (w4 : World) (k : Value → World → Prop) : Prop :=
  LoopP (fun (s : Int) w' nx' => F34_b1 p_n2 p_a1 p_c3 s w' k (fun x0 w => nx' x0 w)) 0 w4
set_option maxRecDepth 100000 in
set_option maxHeartbeats 2000000 in
theorem w34 (p_a1 : Option Addr) (p_n2 : Nat) (p_c3 : Nat) (w4 : World) (k : Value → World → Prop) (h : F34 p_a1 p_n2 p_c3 w4 k) : Does Try.prog 34 #[.slice p_a1 p_n2 p_c3] w4 k := by
  refine enter 27 Try.func34 rfl rfl rfl ?_
  intro ρ hρ
  have e0 := hρ 0 _ rfl
  unfold F34 at h
  refine WC_seq ?_
  refine WC_region ?_
  refine WL_val gd0 ((o_assign (v := .int .i64 0) rfl) _) rfl ?_
  refine WL_nil ?_
  refine nrm ?_
  refine WC_seq ?_
  refine WC_region ?_
  refine WL_val gd0 ((o_move (v := .slice p_a1 p_n2 p_c3) (by exact e0)) _) rfl ?_
  refine WL_val gd0 ((o_len Try.underlying29 rfl) _) rfl ?_
  refine WL_val gd0 ((o_assign (v := .int .i64 (p_n2 : Int)) rfl) _) rfl ?_
  refine WL_nil ?_
  refine nrm ?_
  refine WC_seq ?_
  refine WC_region ?_
  refine WL_val gd0 ((o_assign (v := .int .i64 0) rfl) _) rfl ?_
  refine WL_nil ?_
  refine nrm ?_
  refine WC_seq ?_
  refine WC_block ?_
  obtain ⟨J9, ⟨n9, h0⟩, hr9⟩ := h
  refine WC_loop (fun n ρ w' => ∃ (n8 : Int), ρ 4 = .int .i64 n8 ∧ ρ 0 = .slice p_a1 p_n2 p_c3 ∧ ρ 3 = .int .i64 (p_n2 : Int) ∧ J9 n n8 w') ⟨n9, _, rfl, e0, rfl, h0⟩ ?_
  rintro n9 ρ w9 ⟨n8, e4_7, e0_5, e3_6, h⟩
  have h : F34_b1 p_n2 p_a1 p_c3 n8 w9 k (fun x0 w => ∃ m, m < n9 ∧ J9 m x0 w) := hr9 n9 n8 w9 h
  unfold F34_b1 at h
  refine WC_seq ?_
  refine WC_seq ?_
  refine WC_region ?_
  refine WL_val gd0 ((o_move (v := .int .i64 n8) (by exact e4_7)) _) rfl ?_
  refine WL_val gd0 ((o_move (v := .int .i64 (p_n2 : Int)) (by exact e3_6)) _) rfl ?_
  refine WL_val gd0 ((o_lss rfl rfl) _) rfl ?_
  refine WL_nil ?_
  refine nrm ?_
  refine WC_cond (t := (decide (n8 < (p_n2 : Int)))) rfl (fun hb11 => ?_) (fun hb11 => ?_)
  · rw [if_pos (of_decide_eq_true hb11)] at h
    refine WC_skip ?_
    refine nrm ?_
    refine WC_seq ?_
    refine WC_block ?_
    refine WC_seq ?_
    refine WC_region ?_
    refine WL_val gd0 ((o_move (v := .slice p_a1 p_n2 p_c3) (by exact e0_5)) _) rfl ?_
    refine WL_val gd0 ((o_move (v := .int .i64 n8) (by exact e4_7)) _) rfl ?_
    obtain ⟨p14, q15, h⟩ := h
    obtain ⟨l12, u13, h⟩ := h
    refine WL_val gd0 ((o_indexAddr1 Try.underlying29 Try.sizeOf5 (by exact (congrArg (fun z => Value.slice z p_n2 p_c3) q15)) rfl l12 u13) _) rfl ?_
    obtain ⟨c16, hc17, h⟩ := h
    refine WL_val gd0 (o_load Try.isAgg5 rfl hc17) rfl ?_
    refine WL_val gd0 ((o_assign (v := .int .u8 c16) rfl) _) rfl ?_
    refine WL_nil ?_
    refine nrm ?_
    refine WC_seq ?_
    refine WC_region ?_
    refine WL_val gd0 ((o_move (v := .int .u8 c16) rfl) _) rfl ?_
    refine WL_val gd0 ((o_geq rfl rfl) _) rfl ?_
    refine WL_nil ?_
    refine nrm ?_
    refine WC_cond (t := (decide (128 ≤ c16))) rfl (fun hb18 => ?_) (fun hb18 => ?_)
    · rw [if_pos (of_decide_eq_true hb18)] at h
      refine WC_seq ?_
      refine WC_region ?_
      refine WL_val gd0 ((o_move (v := .int .i64 n8) (by exact e4_7)) _) rfl ?_
      refine WL_val gd0 ((o_move (v := .slice p_a1 p_n2 p_c3) (by exact e0_5)) _) rfl ?_
      refine WL_val gd0 ((o_move (v := .int .i64 n8) (by exact e4_7)) _) rfl ?_
      obtain ⟨c19, c20, h⟩ := h
      refine WL_val gd0 ((o_sliceL Try.underlying29 Try.sizeOf5 rfl rfl c19 c20) _) rfl ?_
      obtain ⟨s21, r22, h⟩ := h
      refine WL_val gd0 (o_toStr Try.underlying29 Try.underlying5 Try.underlying9 rfl r22) rfl ?_
      refine WL_call gd0 (o_call Try.call37 (argCons rfl argNil) _) rfl (h.mono ?_)
      rintro _ w23 ⟨x24, rfl, h⟩
      refine WL_val gd0 ((o_add rfl rfl) _) rfl ?_
      refine WL_val gd0 ((o_assign (v := .int .i64 (IntKind.i64.wrap (n8 + x24))) rfl) _) rfl ?_
      refine WL_nil ?_
      refine nrm ?_
      refine WC_ret ?_
      refine rtB ?_
      refine rtT ?_
      refine rtT ?_
      refine rtB ?_
      refine rtT ?_
      refine rtE ?_
      exact gv1 rfl rfl h
    · rw [if_neg (of_decide_eq_false hb18)] at h
      refine WC_skip ?_
      refine nrmB ?_
      refine nrm ?_
      refine WC_region ?_
      refine WL_val gd0 ((o_move (v := .int .i64 n8) (by exact e4_7)) _) rfl ?_
      refine WL_val gd0 ((o_add rfl rfl) _) rfl ?_
      refine WL_val gd0 ((o_assign (v := .int .i64 (IntKind.i64.wrap (n8 + 1))) rfl) _) rfl ?_
      refine WL_nil ?_
      refine nrm ?_
      obtain ⟨m10, hm10, h⟩ := h
      exact ⟨m10, hm10, _, rfl, e0_5, e3_6, h⟩
  · rw [if_neg (of_decide_eq_false hb11)] at h
    refine WC_exit ?_
    refine exT ?_
    refine exT ?_
    refine exB ?_
    refine nrm ?_
    refine WC_seq ?_
    refine WC_region ?_
    refine WL_val gd0 ((o_move (v := .int .i64 n8) (by exact e4_7)) _) rfl ?_
    refine WL_val gd0 ((o_assign (v := .int .i64 n8) rfl) _) rfl ?_
    refine WL_nil ?_
    refine nrm ?_
    refine WC_ret ?_
    refine rtE ?_
    exact gv1 rfl rfl h

def F36_j3 (i59 : Int) (fails49 : Int) (s_n2 : Nat) (s_a1 : Option Addr) (s_c3 : Nat) (sep_a4 : Option Addr) (sep_n5 : Nat) (sep_c6 : Nat) (t72 : Bool) (w73 : World) (k : Value → World → Prop) (nx50 : Int → Int → World → Prop) : Prop :=
  if t72 = true then
  k (.int .i64 i59) w73
else
  Does Try.prog 41 #[.int .i64 (IntKind.i64.wrap (i59 + 1))] w73 (fun v w75 => ∃ (x76 : Int), v = .int .i64 x76 ∧ if x76 < (IntKind.i64.wrap (fails49 + 1)) then
    (0 : Int) ≤ IntKind.i64.wrap (i59 + 1) ∧ IntKind.i64.wrap (i59 + 1) ≤ (s_n2 : Int) ∧ ∃ (r80 : Int) (w81 : World), (callFunc 40 #[.slice (cutA s_a1 s_c3 ((IntKind.i64.wrap (i59 + 1)).toNat) 1) (s_n2 - (IntKind.i64.wrap (i59 + 1)).toNat) (s_c3 - (IntKind.i64.wrap (i59 + 1)).toNat), .slice sep_a4 sep_n5 sep_c6]).run Try.prog w75 = .ok (.value (.int .i64 r80)) w81 ∧ if 0 ≤ r80 then
      k (.int .i64 (IntKind.i64.wrap (r80 + (IntKind.i64.wrap (i59 + 1))))) w81
    else
      k (.int .i64 (-1)) w81
  else
    nx50 (IntKind.i64.wrap (i59 + 1)) (IntKind.i64.wrap (fails49 + 1)) w75)
def F36_j2 (s_a1 : Option Addr) (s_n2 : Nat) (c138 : Int) (sep_n5 : Nat) (s_c3 : Nat) (sep_a4 : Option Addr) (sep_c6 : Nat) (fails49 : Int) (i59 : Int) (w62 : World) (k : Value → World → Prop) (nx50 : Int → Int → World → Prop) : Prop :=
  ∃ (p86 : Addr), s_a1 = some p86 ∧ (0 : Int) ≤ IntKind.i64.wrap (i59 + 1) ∧ IntKind.i64.wrap (i59 + 1) < (s_n2 : Int) ∧ ∃ (x88 : Int), w62.cell? (p86.add ((IntKind.i64.wrap (i59 + 1)).toNat)) = some (.int .u8 x88) ∧ if x88 = c138 then
  (0 : Int) ≤ i59 ∧ i59 ≤ (IntKind.i64.wrap (i59 + (sep_n5 : Int)) : Int) ∧ IntKind.i64.wrap (i59 + (sep_n5 : Int)) ≤ (s_c3 : Int) ∧ Does Try.prog 39 #[.slice (cutA s_a1 s_c3 i59.toNat 1) ((IntKind.i64.wrap (i59 + (sep_n5 : Int))).toNat - i59.toNat) (s_c3 - i59.toNat), .slice sep_a4 sep_n5 sep_c6] w62 (fun v w94 => ∃ (x95 : Bool), v = .bool x95 ∧ F36_j3 i59 fails49 s_n2 s_a1 s_c3 sep_a4 sep_n5 sep_c6 x95 w94 k nx50)
else
  F36_j3 i59 fails49 s_n2 s_a1 s_c3 sep_a4 sep_n5 sep_c6 false w62 k nx50
def F36_b1 (s_n2 : Nat) (sep_n5 : Nat) (s_a1 : Option Addr) (c034 : Int) (s_c3 : Nat) (c138 : Int) (sep_a4 : Option Addr) (sep_c6 : Nat) (i46 : Int) (fails49 : Int) (w50 : World) (k : Value → World → Prop) (nx50 : Int → Int → World → Prop) : Prop :=
  if i46 < (IntKind.i64.wrap ((IntKind.i64.wrap ((s_n2 : Int) - (sep_n5 : Int))) + 1)) then
  ∃ (p98 : Addr), s_a1 = some p98 ∧ (0 : Int) ≤ i46 ∧ i46 < (s_n2 : Int) ∧ ∃ (x100 : Int), w50.cell? (p98.add i46.toNat) = some (.int .u8 x100) ∧ if x100 ≠ c034 then
    (0 : Int) ≤ IntKind.i64.wrap (i46 + 1) ∧ IntKind.i64.wrap (i46 + 1) ≤ (IntKind.i64.wrap ((IntKind.i64.wrap ((s_n2 : Int) - (sep_n5 : Int))) + 1) : Int) ∧ IntKind.i64.wrap ((IntKind.i64.wrap ((s_n2 : Int) - (sep_n5 : Int))) + 1) ≤ (s_c3 : Int) ∧ Does Try.prog 38 #[.slice (cutA s_a1 s_c3 ((IntKind.i64.wrap (i46 + 1)).toNat) 1) ((IntKind.i64.wrap ((IntKind.i64.wrap ((s_n2 : Int) - (sep_n5 : Int))) + 1)).toNat - (IntKind.i64.wrap (i46 + 1)).toNat) (s_c3 - (IntKind.i64.wrap (i46 + 1)).toNat), .int .u8 c034] w50 (fun v w106 => ∃ (o107 : Int), v = .int .i64 o107 ∧ if o107 < 0 then
      k (.int .i64 (-1)) w106
    else
      F36_j2 s_a1 s_n2 c138 sep_n5 s_c3 sep_a4 sep_c6 fails49 (IntKind.i64.wrap (i46 + (IntKind.i64.wrap (o107 + 1)))) w106 k nx50)
  else
    F36_j2 s_a1 s_n2 c138 sep_n5 s_c3 sep_a4 sep_c6 fails49 i46 w50 k nx50
else
  k (.int .i64 (-1)) w50
def F36_j7 (i138 : Int) (s_n2 : Nat) (s_a1 : Option Addr) (s_c3 : Nat) (sep_a4 : Option Addr) (sep_n5 : Nat) (sep_c6 : Nat) (fails127 : Int) (t163 : Bool) (w164 : World) (k : Value → World → Prop) (nx129 : Int → Int → World → Prop) : Prop :=
  if t163 = true then
  (0 : Int) ≤ IntKind.i64.wrap (i138 + 1) ∧ IntKind.i64.wrap (i138 + 1) ≤ (s_n2 : Int) ∧ Does Try.prog 42 #[.slice (cutA s_a1 s_c3 ((IntKind.i64.wrap (i138 + 1)).toNat) 1) (s_n2 - (IntKind.i64.wrap (i138 + 1)).toNat) (s_c3 - (IntKind.i64.wrap (i138 + 1)).toNat), .slice sep_a4 sep_n5 sep_c6] w164 (fun v w168 => ∃ (j169 : Int), v = .int .i64 j169 ∧ if j169 < 0 then
    k (.int .i64 (-1)) w168
  else
    k (.int .i64 (IntKind.i64.wrap ((IntKind.i64.wrap (i138 + 1)) + j169))) w168)
else
  nx129 (IntKind.i64.wrap (i138 + 1)) (IntKind.i64.wrap (fails127 + 1)) w164
def F36_j6 (i138 : Int) (fails127 : Int) (s_n2 : Nat) (s_a1 : Option Addr) (s_c3 : Nat) (sep_a4 : Option Addr) (sep_n5 : Nat) (sep_c6 : Nat) (t151 : Bool) (w152 : World) (k : Value → World → Prop) (nx129 : Int → Int → World → Prop) : Prop :=
  if t151 = true then
  k (.int .i64 i138) w152
else
  if (IntKind.i64.wrap (4 + (shr .i64 (IntKind.i64.wrap (i138 + 1)) 4))) ≤ (IntKind.i64.wrap (fails127 + 1)) then
    F36_j7 i138 s_n2 s_a1 s_c3 sep_a4 sep_n5 sep_c6 fails127 (decide ((IntKind.i64.wrap (i138 + 1)) < (IntKind.i64.wrap ((IntKind.i64.wrap ((s_n2 : Int) - (sep_n5 : Int))) + 1)))) w152 k nx129
  else
    F36_j7 i138 s_n2 s_a1 s_c3 sep_a4 sep_n5 sep_c6 fails127 false w152 k nx129
def F36_j5 (s_a1 : Option Addr) (s_n2 : Nat) (c1117 : Int) (sep_n5 : Nat) (s_c3 : Nat) (sep_a4 : Option Addr) (sep_c6 : Nat) (fails127 : Int) (i138 : Int) (w141 : World) (k : Value → World → Prop) (nx129 : Int → Int → World → Prop) : Prop :=
  ∃ (p174 : Addr), s_a1 = some p174 ∧ (0 : Int) ≤ IntKind.i64.wrap (i138 + 1) ∧ IntKind.i64.wrap (i138 + 1) < (s_n2 : Int) ∧ ∃ (x176 : Int), w141.cell? (p174.add ((IntKind.i64.wrap (i138 + 1)).toNat)) = some (.int .u8 x176) ∧ if x176 = c1117 then
  (0 : Int) ≤ i138 ∧ i138 ≤ (IntKind.i64.wrap (i138 + (sep_n5 : Int)) : Int) ∧ IntKind.i64.wrap (i138 + (sep_n5 : Int)) ≤ (s_c3 : Int) ∧ Does Try.prog 39 #[.slice (cutA s_a1 s_c3 i138.toNat 1) ((IntKind.i64.wrap (i138 + (sep_n5 : Int))).toNat - i138.toNat) (s_c3 - i138.toNat), .slice sep_a4 sep_n5 sep_c6] w141 (fun v w182 => ∃ (x183 : Bool), v = .bool x183 ∧ F36_j6 i138 fails127 s_n2 s_a1 s_c3 sep_a4 sep_n5 sep_c6 x183 w182 k nx129)
else
  F36_j6 i138 fails127 s_n2 s_a1 s_c3 sep_a4 sep_n5 sep_c6 false w141 k nx129
def F36_b4 (s_n2 : Nat) (sep_n5 : Nat) (s_a1 : Option Addr) (c0113 : Int) (s_c3 : Nat) (c1117 : Int) (sep_a4 : Option Addr) (sep_c6 : Nat) (i125 : Int) (fails127 : Int) (w129 : World) (k : Value → World → Prop) (nx129 : Int → Int → World → Prop) : Prop :=
  if i125 < (IntKind.i64.wrap ((IntKind.i64.wrap ((s_n2 : Int) - (sep_n5 : Int))) + 1)) then
  ∃ (p186 : Addr), s_a1 = some p186 ∧ (0 : Int) ≤ i125 ∧ i125 < (s_n2 : Int) ∧ ∃ (x188 : Int), w129.cell? (p186.add i125.toNat) = some (.int .u8 x188) ∧ if x188 ≠ c0113 then
    (0 : Int) ≤ IntKind.i64.wrap (i125 + 1) ∧ IntKind.i64.wrap (i125 + 1) ≤ (IntKind.i64.wrap ((IntKind.i64.wrap ((s_n2 : Int) - (sep_n5 : Int))) + 1) : Int) ∧ IntKind.i64.wrap ((IntKind.i64.wrap ((s_n2 : Int) - (sep_n5 : Int))) + 1) ≤ (s_c3 : Int) ∧ Does Try.prog 38 #[.slice (cutA s_a1 s_c3 ((IntKind.i64.wrap (i125 + 1)).toNat) 1) ((IntKind.i64.wrap ((IntKind.i64.wrap ((s_n2 : Int) - (sep_n5 : Int))) + 1)).toNat - (IntKind.i64.wrap (i125 + 1)).toNat) (s_c3 - (IntKind.i64.wrap (i125 + 1)).toNat), .int .u8 c0113] w129 (fun v w194 => ∃ (o195 : Int), v = .int .i64 o195 ∧ if o195 < 0 then
      k (.int .i64 (-1)) w194
    else
      F36_j5 s_a1 s_n2 c1117 sep_n5 s_c3 sep_a4 sep_c6 fails127 (IntKind.i64.wrap (i125 + (IntKind.i64.wrap (o195 + 1)))) w194 k nx129)
  else
    F36_j5 s_a1 s_n2 c1117 sep_n5 s_c3 sep_a4 sep_c6 fails127 i125 w129 k nx129
else
  k (.int .i64 (-1)) w129
/-- bytes.Index -/
def F36 (s_a1 : Option Addr) (s_n2 : Nat) (s_c3 : Nat) (sep_a4 : Option Addr) (sep_n5 : Nat) (sep_c6 : Nat) (w7 : World) (k : Value → World → Prop) : Prop :=
  if (sep_n5 : Int) = 0 then
  k (.int .i64 0) w7
else
  if (sep_n5 : Int) = 1 then
    ∃ (p12 : Addr), sep_a4 = some p12 ∧ (0 : Int) ≤ 0 ∧ 0 < (sep_n5 : Int) ∧ ∃ (x14 : Int), w7.cell? (p12.add ((0 : Int).toNat)) = some (.int .u8 x14) ∧ Does Try.prog 38 #[.slice s_a1 s_n2 s_c3, .int .u8 x14] w7 (fun v w16 => ∃ (t17 : Int), v = .int .i64 t17 ∧ k (.int .i64 t17) w16)
  else
    if (sep_n5 : Int) = (s_n2 : Int) then
      Does Try.prog 39 #[.slice sep_a4 sep_n5 sep_c6, .slice s_a1 s_n2 s_c3] w7 (fun v w19 => ∃ (x20 : Bool), v = .bool x20 ∧ if x20 = true then
        k (.int .i64 0) w19
      else
        k (.int .i64 (-1)) w19)
    else
      if (s_n2 : Int) < (sep_n5 : Int) then
        k (.int .i64 (-1)) w7
      else
        ∃ (x23 : Int), w7.cell? (⟨0, 0, none⟩) = some (.int .i64 x23) ∧ if (sep_n5 : Int) ≤ x23 then
          if (s_n2 : Int) ≤ 64 then
            ∃ (t27 : Int) (w28 : World), (callFunc 40 #[.slice s_a1 s_n2 s_c3, .slice sep_a4 sep_n5 sep_c6]).run Try.prog w7 = .ok (.value (.int .i64 t27)) w28 ∧ k (.int .i64 t27) w28
          else
            ∃ (p32 : Addr), sep_a4 = some p32 ∧ (0 : Int) ≤ 0 ∧ 0 < (sep_n5 : Int) ∧ ∃ (c034 : Int), w7.cell? (p32.add ((0 : Int).toNat)) = some (.int .u8 c034) ∧ (0 : Int) ≤ 1 ∧ 1 < (sep_n5 : Int) ∧ ∃ (c138 : Int), w7.cell? (p32.add ((1 : Int).toNat)) = some (.int .u8 c138) ∧ LoopP (fun (s : Int × Int) w' nx' => F36_b1 s_n2 sep_n5 s_a1 c034 s_c3 c138 sep_a4 sep_c6 (s.1) (s.2) w' k (fun x0 x1 w => nx' (x0, x1) w)) (0, 0) w7
        else
          ∃ (p111 : Addr), sep_a4 = some p111 ∧ (0 : Int) ≤ 0 ∧ 0 < (sep_n5 : Int) ∧ ∃ (c0113 : Int), w7.cell? (p111.add ((0 : Int).toNat)) = some (.int .u8 c0113) ∧ (0 : Int) ≤ 1 ∧ 1 < (sep_n5 : Int) ∧ ∃ (c1117 : Int), w7.cell? (p111.add ((1 : Int).toNat)) = some (.int .u8 c1117) ∧ LoopP (fun (s : Int × Int) w' nx' => F36_b4 s_n2 sep_n5 s_a1 c0113 s_c3 c1117 sep_a4 sep_c6 (s.1) (s.2) w' k (fun x0 x1 w => nx' (x0, x1) w)) (0, 0) w7
set_option maxRecDepth 100000 in
set_option maxHeartbeats 2000000 in
theorem w36 (s_a1 : Option Addr) (s_n2 : Nat) (s_c3 : Nat) (sep_a4 : Option Addr) (sep_n5 : Nat) (sep_c6 : Nat) (w7 : World) (k : Value → World → Prop) (h : F36 s_a1 s_n2 s_c3 sep_a4 sep_n5 sep_c6 w7 k) : Does Try.prog 36 #[.slice s_a1 s_n2 s_c3, .slice sep_a4 sep_n5 sep_c6] w7 k := by
  refine enter 200 Try.func36 rfl rfl rfl ?_
  intro ρ hρ
  have e0 := hρ 0 _ rfl
  have e1 := hρ 1 _ rfl
  unfold F36 at h
  refine WC_seq ?_
  refine WC_region ?_
  refine WL_val gd0 ((o_assign (v := .int .i64 0) rfl) _) rfl ?_
  refine WL_nil ?_
  refine nrm ?_
  refine WC_seq ?_
  refine WC_region ?_
  refine WL_val gd0 ((o_move (v := .slice sep_a4 sep_n5 sep_c6) (by exact e1)) _) rfl ?_
  refine WL_val gd0 ((o_len Try.underlying29 rfl) _) rfl ?_
  refine WL_val gd0 ((o_assign (v := .int .i64 (sep_n5 : Int)) rfl) _) rfl ?_
  refine WL_nil ?_
  refine nrm ?_
  refine WC_seq ?_
  refine WC_block ?_
  refine WC_seq ?_
  refine WC_region ?_
  refine WL_val gd0 ((o_move (v := .int .i64 (sep_n5 : Int)) rfl) _) rfl ?_
  refine WL_val gd0 ((o_eql rfl rfl) _) rfl ?_
  refine WL_val gd0 ((o_assign (v := .bool (decide ((sep_n5 : Int) = 0))) rfl) _) rfl ?_
  refine WL_nil ?_
  refine nrm ?_
  refine WC_cond (t := (decide ((sep_n5 : Int) = 0))) rfl (fun hb8 => ?_) (fun hb8 => ?_)
  · rw [if_pos (of_decide_eq_true hb8)] at h
    refine WC_seq ?_
    refine WC_region ?_
    refine WL_val gd0 ((o_assign (v := .int .i64 0) rfl) _) rfl ?_
    refine WL_nil ?_
    refine nrm ?_
    refine WC_ret ?_
    refine rtB ?_
    refine rtT ?_
    refine rtE ?_
    exact gv1 rfl rfl h
  · rw [if_neg (of_decide_eq_false hb8)] at h
    refine WC_seq ?_
    refine WC_region ?_
    refine WL_val gd0 ((o_move (v := .int .i64 (sep_n5 : Int)) rfl) _) rfl ?_
    refine WL_val gd0 ((o_eql rfl rfl) _) rfl ?_
    refine WL_val gd0 ((o_assign (v := .bool (decide ((sep_n5 : Int) = 1))) rfl) _) rfl ?_
    refine WL_nil ?_
    refine nrm ?_
    refine WC_cond (t := (decide ((sep_n5 : Int) = 1))) rfl (fun hb9 => ?_) (fun hb9 => ?_)
    · rw [if_pos (of_decide_eq_true hb9)] at h
      refine WC_seq ?_
      refine WC_region ?_
      refine WL_val gd0 ((o_move (v := .slice s_a1 s_n2 s_c3) (by exact e0)) _) rfl ?_
      refine WL_val gd0 ((o_move (v := .slice sep_a4 sep_n5 sep_c6) (by exact e1)) _) rfl ?_
      obtain ⟨p12, q13, h⟩ := h
      obtain ⟨l10, u11, h⟩ := h
      refine WL_val gd0 ((o_indexAddr1 Try.underlying29 Try.sizeOf5 (by exact (congrArg (fun z => Value.slice z sep_n5 sep_c6) q13)) rfl l10 u11) _) rfl ?_
      obtain ⟨x14, hc15, h⟩ := h
      refine WL_val gd0 (o_load Try.isAgg5 rfl hc15) rfl ?_
      refine WL_call gd0 (o_call Try.call38 (argCons rfl (argCons rfl argNil)) _) rfl (h.mono ?_)
      rintro _ w16 ⟨t17, rfl, h⟩
      refine WL_val gd0 ((o_assign (v := .int .i64 t17) rfl) _) rfl ?_
      refine WL_nil ?_
      refine nrm ?_
      refine WC_ret ?_
      refine rtB ?_
      refine rtT ?_
      refine rtE ?_
      exact gv1 rfl rfl h
    · rw [if_neg (of_decide_eq_false hb9)] at h
      refine WC_seq ?_
      refine WC_region ?_
      refine WL_val gd0 ((o_move (v := .int .i64 (sep_n5 : Int)) rfl) _) rfl ?_
      refine WL_val gd0 ((o_move (v := .slice s_a1 s_n2 s_c3) (by exact e0)) _) rfl ?_
      refine WL_val gd0 ((o_len Try.underlying29 rfl) _) rfl ?_
      refine WL_val gd0 ((o_eql rfl rfl) _) rfl ?_
      refine WL_val gd0 ((o_assign (v := .bool (decide ((sep_n5 : Int) = (s_n2 : Int)))) rfl) _) rfl ?_
      refine WL_nil ?_
      refine nrm ?_
      refine WC_cond (t := (decide ((sep_n5 : Int) = (s_n2 : Int)))) rfl (fun hb18 => ?_) (fun hb18 => ?_)
      · rw [if_pos (of_decide_eq_true hb18)] at h
        refine WC_seq ?_
        refine WC_seq ?_
        refine WC_region ?_
        refine WL_val gd0 ((o_move (v := .slice sep_a4 sep_n5 sep_c6) (by exact e1)) _) rfl ?_
        refine WL_val gd0 ((o_move (v := .slice s_a1 s_n2 s_c3) (by exact e0)) _) rfl ?_
        refine WL_call gd0 (o_call Try.call39 (argCons rfl (argCons rfl argNil)) _) rfl (h.mono ?_)
        rintro _ w19 ⟨x20, rfl, h⟩
        refine WL_nil ?_
        refine nrm ?_
        refine WC_cond (t := x20) rfl (fun hb21 => ?_) (fun hb21 => ?_)
        · rw [if_pos hb21] at h
          refine WC_seq ?_
          refine WC_region ?_
          refine WL_val gd0 ((o_assign (v := .int .i64 0) rfl) _) rfl ?_
          refine WL_nil ?_
          refine nrm ?_
          refine WC_ret ?_
          refine rtT ?_
          refine rtB ?_
          refine rtT ?_
          refine rtE ?_
          exact gv1 rfl rfl h
        · rw [if_neg (neT hb21)] at h
          refine WC_skip ?_
          refine nrm ?_
          refine WC_seq ?_
          refine WC_region ?_
          refine WL_val gd0 ((o_assign (v := .int .i64 (-1)) rfl) _) rfl ?_
          refine WL_nil ?_
          refine nrm ?_
          refine WC_ret ?_
          refine rtB ?_
          refine rtT ?_
          refine rtE ?_
          exact gv1 rfl rfl h
      · rw [if_neg (of_decide_eq_false hb18)] at h
        refine WC_seq ?_
        refine WC_region ?_
        refine WL_val gd0 ((o_move (v := .int .i64 (sep_n5 : Int)) rfl) _) rfl ?_
        refine WL_val gd0 ((o_move (v := .slice s_a1 s_n2 s_c3) (by exact e0)) _) rfl ?_
        refine WL_val gd0 ((o_len Try.underlying29 rfl) _) rfl ?_
        refine WL_val gd0 ((o_gtr rfl rfl) _) rfl ?_
        refine WL_val gd0 ((o_assign (v := .bool (decide ((s_n2 : Int) < (sep_n5 : Int)))) rfl) _) rfl ?_
        refine WL_nil ?_
        refine nrm ?_
        refine WC_cond (t := (decide ((s_n2 : Int) < (sep_n5 : Int)))) rfl (fun hb22 => ?_) (fun hb22 => ?_)
        · rw [if_pos (of_decide_eq_true hb22)] at h
          refine WC_seq ?_
          refine WC_region ?_
          refine WL_val gd0 ((o_assign (v := .int .i64 (-1)) rfl) _) rfl ?_
          refine WL_nil ?_
          refine nrm ?_
          refine WC_ret ?_
          refine rtB ?_
          refine rtT ?_
          refine rtE ?_
          exact gv1 rfl rfl h
        · rw [if_neg (of_decide_eq_false hb22)] at h
          refine WC_seq ?_
          refine WC_region ?_
          refine WL_val gd0 ((o_move (v := .int .i64 (sep_n5 : Int)) rfl) _) rfl ?_
          obtain ⟨x23, hc24, h⟩ := h
          refine WL_val gd0 (o_load Try.isAgg3 rfl hc24) rfl ?_
          refine WL_val gd0 ((o_leq rfl rfl) _) rfl ?_
          refine WL_val gd0 ((o_assign (v := .bool (decide ((sep_n5 : Int) ≤ x23))) rfl) _) rfl ?_
          refine WL_nil ?_
          refine nrm ?_
          refine WC_cond (t := (decide ((sep_n5 : Int) ≤ x23))) rfl (fun hb25 => ?_) (fun hb25 => ?_)
          · rw [if_pos (of_decide_eq_true hb25)] at h
            refine WC_seq ?_
            refine WC_seq ?_
            refine WC_region ?_
            refine WL_val gd0 ((o_move (v := .slice s_a1 s_n2 s_c3) (by exact e0)) _) rfl ?_
            refine WL_val gd0 ((o_len Try.underlying29 rfl) _) rfl ?_
            refine WL_val gd0 ((o_leq rfl rfl) _) rfl ?_
            refine WL_nil ?_
            refine nrm ?_
            refine WC_cond (t := (decide ((s_n2 : Int) ≤ 64))) rfl (fun hb26 => ?_) (fun hb26 => ?_)
            · rw [if_pos (of_decide_eq_true hb26)] at h
              refine WC_seq ?_
              refine WC_region ?_
              refine WL_val gd0 ((o_move (v := .slice s_a1 s_n2 s_c3) (by exact e0)) _) rfl ?_
              refine WL_val gd0 ((o_move (v := .slice sep_a4 sep_n5 sep_c6) (by exact e1)) _) rfl ?_
              obtain ⟨t27, w28, r29, h⟩ := h
              refine WL_val gd0 (o_callExt (argCons rfl (argCons rfl argNil)) r29) rfl ?_
              refine WL_val gd0 ((o_assign (v := .int .i64 t27) rfl) _) rfl ?_
              refine WL_nil ?_
              refine nrm ?_
              refine WC_ret ?_
              refine rtT ?_
              refine rtB ?_
              refine rtT ?_
              refine rtE ?_
              exact gv1 rfl rfl h
            · rw [if_neg (of_decide_eq_false hb26)] at h
              refine WC_skip ?_
              refine nrm ?_
              refine WC_seq ?_
              refine WC_region ?_
              refine WL_val gd0 ((o_move (v := .slice sep_a4 sep_n5 sep_c6) (by exact e1)) _) rfl ?_
              obtain ⟨p32, q33, h⟩ := h
              obtain ⟨l30, u31, h⟩ := h
              refine WL_val gd0 ((o_indexAddr1 Try.underlying29 Try.sizeOf5 (by exact (congrArg (fun z => Value.slice z sep_n5 sep_c6) q33)) rfl l30 u31) _) rfl ?_
              obtain ⟨c034, hc35, h⟩ := h
              refine WL_val gd0 (o_load Try.isAgg5 rfl hc35) rfl ?_
              refine WL_val gd0 ((o_assign (v := .int .u8 c034) rfl) _) rfl ?_
              refine WL_nil ?_
              refine nrm ?_
              refine WC_seq ?_
              refine WC_region ?_
              refine WL_val gd0 ((o_move (v := .slice sep_a4 sep_n5 sep_c6) (by exact e1)) _) rfl ?_
              obtain ⟨l36, u37, h⟩ := h
              refine WL_val gd0 ((o_indexAddr1 Try.underlying29 Try.sizeOf5 (by exact (congrArg (fun z => Value.slice z sep_n5 sep_c6) q33)) rfl l36 u37) _) rfl ?_
              obtain ⟨c138, hc39, h⟩ := h
              refine WL_val gd0 (o_load Try.isAgg5 rfl hc39) rfl ?_
              refine WL_val gd0 ((o_assign (v := .int .u8 c138) rfl) _) rfl ?_
              refine WL_nil ?_
              refine nrm ?_
              refine WC_seq ?_
              refine WC_region ?_
              refine WL_val gd0 ((o_assign (v := .int .i64 0) rfl) _) rfl ?_
              refine WL_nil ?_
              refine nrm ?_
              refine WC_seq ?_
              refine WC_region ?_
              refine WL_val gd0 ((o_move (v := .slice s_a1 s_n2 s_c3) (by exact e0)) _) rfl ?_
              refine WL_val gd0 ((o_len Try.underlying29 rfl) _) rfl ?_
              refine WL_val gd0 ((o_move (v := .int .i64 (sep_n5 : Int)) rfl) _) rfl ?_
              refine WL_val gd0 ((o_sub rfl rfl) _) rfl ?_
              refine WL_val gd0 ((o_add rfl rfl) _) rfl ?_
              refine WL_val gd0 ((o_assign (v := .int .i64 (IntKind.i64.wrap ((IntKind.i64.wrap ((s_n2 : Int) - (sep_n5 : Int))) + 1))) rfl) _) rfl ?_
              refine WL_nil ?_
              refine nrm ?_
              refine WC_seq ?_
              refine WC_region ?_
              refine WL_val gd0 ((o_assign (v := .int .i64 0) rfl) _) rfl ?_
              refine WL_nil ?_
              refine nrm ?_
              refine WC_seq ?_
              refine WC_block ?_
              obtain ⟨J50, ⟨n50, h0⟩, hr50⟩ := h
              refine WC_loop (fun n ρ w' => ∃ (i46 fails49 : Int), ρ 8 = .int .i64 i46 ∧ ρ 10 = .int .i64 fails49 ∧ ρ 0 = .slice s_a1 s_n2 s_c3 ∧ ρ 1 = .slice sep_a4 sep_n5 sep_c6 ∧ ρ 5 = .int .i64 (sep_n5 : Int) ∧ ρ 6 = .int .u8 c034 ∧ ρ 7 = .int .u8 c138 ∧ ρ 9 = .int .i64 (IntKind.i64.wrap ((IntKind.i64.wrap ((s_n2 : Int) - (sep_n5 : Int))) + 1)) ∧ J50 n (i46, fails49) w') ⟨n50, _, _, rfl, rfl, e0, e1, rfl, rfl, rfl, rfl, h0⟩ ?_
              rintro n50 ρ w50 ⟨i46, fails49, e8_45, e10_48, e0_40, e1_41, e5_42, e6_43, e7_44, e9_47, h⟩
              have h : F36_b1 s_n2 sep_n5 s_a1 c034 s_c3 c138 sep_a4 sep_c6 i46 fails49 w50 k (fun x0 x1 w => ∃ m, m < n50 ∧ J50 m (x0, x1) w) := hr50 n50 (i46, fails49) w50 h
              unfold F36_b1 at h
              refine WC_seq ?_
              refine WC_seq ?_
              refine WC_region ?_
              refine WL_val gd0 ((o_move (v := .int .i64 i46) (by exact e8_45)) _) rfl ?_
              refine WL_val gd0 ((o_move (v := .int .i64 (IntKind.i64.wrap ((IntKind.i64.wrap ((s_n2 : Int) - (sep_n5 : Int))) + 1))) (by exact e9_47)) _) rfl ?_
              refine WL_val gd0 ((o_lss rfl rfl) _) rfl ?_
              refine WL_nil ?_
              refine nrm ?_
              refine WC_cond (t := (decide (i46 < (IntKind.i64.wrap ((IntKind.i64.wrap ((s_n2 : Int) - (sep_n5 : Int))) + 1))))) rfl (fun hb52 => ?_) (fun hb52 => ?_)
              · rw [if_pos (of_decide_eq_true hb52)] at h
                refine WC_skip ?_
                refine nrm ?_
                refine WC_block ?_
                refine WC_cut (fun ρ w' => ∃ (i59 : Int), ρ 8 = .int .i64 i59 ∧ ρ 0 = .slice s_a1 s_n2 s_c3 ∧ ρ 1 = .slice sep_a4 sep_n5 sep_c6 ∧ ρ 5 = .int .i64 (sep_n5 : Int) ∧ ρ 6 = .int .u8 c034 ∧ ρ 7 = .int .u8 c138 ∧ ρ 9 = .int .i64 (IntKind.i64.wrap ((IntKind.i64.wrap ((s_n2 : Int) - (sep_n5 : Int))) + 1)) ∧ ρ 10 = .int .i64 fails49 ∧ F36_j2 s_a1 s_n2 c138 sep_n5 s_c3 sep_a4 sep_c6 fails49 i59 w' k (fun x0 x1 w => ∃ m, m < n50 ∧ J50 m (x0, x1) w)) ?_ ?_
                · refine WC_seq ?_
                  refine WC_region ?_
                  refine WL_val gd0 ((o_move (v := .slice s_a1 s_n2 s_c3) (by exact e0_40)) _) rfl ?_
                  refine WL_val gd0 ((o_move (v := .int .i64 i46) (by exact e8_45)) _) rfl ?_
                  obtain ⟨p98, q99, h⟩ := h
                  obtain ⟨l96, u97, h⟩ := h
                  refine WL_val gd0 ((o_indexAddr1 Try.underlying29 Try.sizeOf5 (by exact (congrArg (fun z => Value.slice z s_n2 s_c3) q99)) rfl l96 u97) _) rfl ?_
                  obtain ⟨x100, hc101, h⟩ := h
                  refine WL_val gd0 (o_load Try.isAgg5 rfl hc101) rfl ?_
                  refine WL_val gd0 ((o_move (v := .int .u8 c034) (by exact e6_43)) _) rfl ?_
                  refine WL_val gd0 ((o_neq rfl rfl) _) rfl ?_
                  refine WL_nil ?_
                  refine nrm ?_
                  refine WC_cond (t := (decide (x100 ≠ c034))) rfl (fun hb102 => ?_) (fun hb102 => ?_)
                  · rw [if_pos (of_decide_eq_true hb102)] at h
                    refine WC_seq ?_
                    refine WC_region ?_
                    refine WL_val gd0 ((o_move (v := .slice s_a1 s_n2 s_c3) (by exact e0_40)) _) rfl ?_
                    refine WL_val gd0 ((o_move (v := .int .i64 i46) (by exact e8_45)) _) rfl ?_
                    refine WL_val gd0 ((o_add rfl rfl) _) rfl ?_
                    refine WL_val gd0 ((o_move (v := .int .i64 (IntKind.i64.wrap ((IntKind.i64.wrap ((s_n2 : Int) - (sep_n5 : Int))) + 1))) (by exact e9_47)) _) rfl ?_
                    obtain ⟨c103, c104, c105, h⟩ := h
                    refine WL_val gd0 ((o_sliceLH Try.underlying29 Try.sizeOf5 rfl rfl rfl c103 c104 c105) _) rfl ?_
                    refine WL_val gd0 ((o_move (v := .int .u8 c034) (by exact e6_43)) _) rfl ?_
                    refine WL_call gd0 (o_call Try.call38 (argCons rfl (argCons rfl argNil)) _) rfl (h.mono ?_)
                    rintro _ w106 ⟨o107, rfl, h⟩
                    refine WL_val gd0 ((o_assign (v := .int .i64 o107) rfl) _) rfl ?_
                    refine WL_nil ?_
                    refine nrm ?_
                    refine WC_seq ?_
                    refine WC_seq ?_
                    refine WC_region ?_
                    refine WL_val gd0 ((o_move (v := .int .i64 o107) rfl) _) rfl ?_
                    refine WL_val gd0 ((o_lss rfl rfl) _) rfl ?_
                    refine WL_nil ?_
                    refine nrm ?_
                    refine WC_cond (t := (decide (o107 < 0))) rfl (fun hb108 => ?_) (fun hb108 => ?_)
                    · rw [if_pos (of_decide_eq_true hb108)] at h
                      refine WC_seq ?_
                      refine WC_region ?_
                      refine WL_val gd0 ((o_assign (v := .int .i64 (-1)) rfl) _) rfl ?_
                      refine WL_nil ?_
                      refine nrm ?_
                      refine WC_ret ?_
                      refine rtT ?_
                      refine rtT ?_
                      refine rtB ?_
                      refine rtT ?_
                      refine rtB ?_
                      refine rtT ?_
                      refine rtB ?_
                      refine rtT ?_
                      refine rtE ?_
                      exact gv1 rfl rfl h
                    · rw [if_neg (of_decide_eq_false hb108)] at h
                      refine WC_skip ?_
                      refine nrm ?_
                      refine WC_region ?_
                      refine WL_val gd0 ((o_move (v := .int .i64 i46) (by exact e8_45)) _) rfl ?_
                      refine WL_val gd0 ((o_move (v := .int .i64 o107) rfl) _) rfl ?_
                      refine WL_val gd0 ((o_add rfl rfl) _) rfl ?_
                      refine WL_val gd0 ((o_add rfl rfl) _) rfl ?_
                      refine WL_val gd0 ((o_assign (v := .int .i64 (IntKind.i64.wrap (i46 + (IntKind.i64.wrap (o107 + 1))))) rfl) _) rfl ?_
                      refine WL_nil ?_
                      refine nrm ?_
                      exact ⟨_, rfl, e0_40, e1_41, e5_42, e6_43, e7_44, e9_47, e10_48, h⟩
                  · rw [if_neg (of_decide_eq_false hb102)] at h
                    refine WC_skip ?_
                    refine nrm ?_
                    exact ⟨_, e8_45, e0_40, e1_41, e5_42, e6_43, e7_44, e9_47, e10_48, h⟩
                · rintro ρ w62 ⟨i59, e8_58, e0_53, e1_54, e5_55, e6_56, e7_57, e9_60, e10_61, h⟩
                  unfold F36_j2 at h
                  refine WC_seq ?_
                  refine WC_cut (fun ρ w' => ∃ (t72 : Bool), ρ 105 = .bool t72 ∧ ρ 0 = .slice s_a1 s_n2 s_c3 ∧ ρ 1 = .slice sep_a4 sep_n5 sep_c6 ∧ ρ 5 = .int .i64 (sep_n5 : Int) ∧ ρ 6 = .int .u8 c034 ∧ ρ 7 = .int .u8 c138 ∧ ρ 8 = .int .i64 i59 ∧ ρ 9 = .int .i64 (IntKind.i64.wrap ((IntKind.i64.wrap ((s_n2 : Int) - (sep_n5 : Int))) + 1)) ∧ ρ 10 = .int .i64 fails49 ∧ F36_j3 i59 fails49 s_n2 s_a1 s_c3 sep_a4 sep_n5 sep_c6 t72 w' k (fun x0 x1 w => ∃ m, m < n50 ∧ J50 m (x0, x1) w)) ?_ ?_
                  · refine WC_region ?_
                    refine WL_val gd0 ((o_move (v := .slice s_a1 s_n2 s_c3) (by exact e0_53)) _) rfl ?_
                    refine WL_val gd0 ((o_move (v := .int .i64 i59) (by exact e8_58)) _) rfl ?_
                    refine WL_val gd0 ((o_add rfl rfl) _) rfl ?_
                    obtain ⟨p86, q87, h⟩ := h
                    obtain ⟨l84, u85, h⟩ := h
                    refine WL_val gd0 ((o_indexAddr1 Try.underlying29 Try.sizeOf5 (by exact (congrArg (fun z => Value.slice z s_n2 s_c3) q87)) rfl l84 u85) _) rfl ?_
                    obtain ⟨x88, hc89, h⟩ := h
                    refine WL_val gd0 (o_load Try.isAgg5 rfl hc89) rfl ?_
                    refine WL_val gd0 ((o_move (v := .int .u8 c138) (by exact e7_57)) _) rfl ?_
                    refine WL_val gd0 ((o_eql rfl rfl) _) rfl ?_
                    refine WL_val gd0 ((o_move (v := .bool (decide (x88 = c138))) rfl) _) rfl ?_
                    refine bsplit (decide (x88 = c138)) (fun hb90 => ?_) (fun hb90 => ?_)
                    · rw [if_pos (of_decide_eq_true hb90)] at h
                      refine WL_val (gdY (b := (decide (x88 = c138))) 96 rfl rfl hb90) ((o_move (v := .slice s_a1 s_n2 s_c3) (by exact e0_53)) _) rfl ?_
                      refine WL_val (gdY (b := (decide (x88 = c138))) 96 rfl rfl hb90) ((o_move (v := .int .i64 i59) (by exact e8_58)) _) rfl ?_
                      refine WL_val (gdY (b := (decide (x88 = c138))) 96 rfl rfl hb90) ((o_move (v := .int .i64 i59) (by exact e8_58)) _) rfl ?_
                      refine WL_val (gdY (b := (decide (x88 = c138))) 96 rfl rfl hb90) ((o_move (v := .int .i64 (sep_n5 : Int)) (by exact e5_55)) _) rfl ?_
                      refine WL_val (gdY (b := (decide (x88 = c138))) 96 rfl rfl hb90) ((o_add rfl rfl) _) rfl ?_
                      obtain ⟨c91, c92, c93, h⟩ := h
                      refine WL_val (gdY (b := (decide (x88 = c138))) 96 rfl rfl hb90) ((o_sliceLH Try.underlying29 Try.sizeOf5 rfl rfl rfl c91 c92 c93) _) rfl ?_
                      refine WL_val (gdY (b := (decide (x88 = c138))) 96 rfl rfl hb90) ((o_move (v := .slice sep_a4 sep_n5 sep_c6) (by exact e1_54)) _) rfl ?_
                      refine WL_call (gdY (b := (decide (x88 = c138))) 96 rfl rfl hb90) (o_call Try.call39 (argCons rfl (argCons rfl argNil)) _) rfl (h.mono ?_)
                      rintro _ w94 ⟨x95, rfl, h⟩
                      refine WL_val gd0 ((o_pickT (v := .bool x95) rfl hb90 rfl) _) rfl ?_
                      refine WL_nil ?_
                      refine nrm ?_
                      exact ⟨_, rfl, e0_53, e1_54, e5_55, e6_56, e7_57, e8_58, e9_60, e10_61, h⟩
                    · rw [if_neg (of_decide_eq_false hb90)] at h
                      refine WL_skip (gdN (b := (decide (x88 = c138))) 96 rfl rfl hb90) rfl ?_
                      refine WL_skip (gdN (b := (decide (x88 = c138))) 96 rfl rfl hb90) rfl ?_
                      refine WL_skip (gdN (b := (decide (x88 = c138))) 96 rfl rfl hb90) rfl ?_
                      refine WL_skip (gdN (b := (decide (x88 = c138))) 96 rfl rfl hb90) rfl ?_
                      refine WL_skip (gdN (b := (decide (x88 = c138))) 96 rfl rfl hb90) rfl ?_
                      refine WL_skip (gdN (b := (decide (x88 = c138))) 96 rfl rfl hb90) rfl ?_
                      refine WL_skip (gdN (b := (decide (x88 = c138))) 96 rfl rfl hb90) rfl ?_
                      refine WL_skip (gdN (b := (decide (x88 = c138))) 96 rfl rfl hb90) rfl ?_
                      refine WL_val gd0 ((o_pickF (v := .bool false) rfl hb90 rfl) _) rfl ?_
                      refine WL_nil ?_
                      refine nrm ?_
                      exact ⟨_, rfl, e0_53, e1_54, e5_55, e6_56, e7_57, e8_58, e9_60, e10_61, h⟩
                  · rintro ρ w73 ⟨t72, e105_71, e0_63, e1_64, e5_65, e6_66, e7_67, e8_68, e9_69, e10_70, h⟩
                    unfold F36_j3 at h
                    refine WC_cond (t := t72) (by exact e105_71) (fun hb74 => ?_) (fun hb74 => ?_)
                    · rw [if_pos hb74] at h
                      refine WC_seq ?_
                      refine WC_region ?_
                      refine WL_val gd0 ((o_move (v := .int .i64 i59) (by exact e8_68)) _) rfl ?_
                      refine WL_val gd0 ((o_assign (v := .int .i64 i59) rfl) _) rfl ?_
                      refine WL_nil ?_
                      refine nrm ?_
                      refine WC_ret ?_
                      refine rtT ?_
                      refine rtB ?_
                      refine rtT ?_
                      refine rtB ?_
                      refine rtT ?_
                      refine rtB ?_
                      refine rtT ?_
                      refine rtE ?_
                      exact gv1 rfl rfl h
                    · rw [if_neg (neT hb74)] at h
                      refine WC_skip ?_
                      refine nrm ?_
                      refine WC_seq ?_
                      refine WC_region ?_
                      refine WL_val gd0 ((o_move (v := .int .i64 fails49) (by exact e10_70)) _) rfl ?_
                      refine WL_val gd0 ((o_add rfl rfl) _) rfl ?_
                      refine WL_val gd0 ((o_assign (v := .int .i64 (IntKind.i64.wrap (fails49 + 1))) rfl) _) rfl ?_
                      refine WL_nil ?_
                      refine nrm ?_
                      refine WC_seq ?_
                      refine WC_region ?_
                      refine WL_val gd0 ((o_move (v := .int .i64 i59) (by exact e8_68)) _) rfl ?_
                      refine WL_val gd0 ((o_add rfl rfl) _) rfl ?_
                      refine WL_val gd0 ((o_assign (v := .int .i64 (IntKind.i64.wrap (i59 + 1))) rfl) _) rfl ?_
                      refine WL_nil ?_
                      refine nrm ?_
                      refine WC_seq ?_
                      refine WC_region ?_
                      refine WL_val gd0 ((o_move (v := .int .i64 (IntKind.i64.wrap (fails49 + 1))) rfl) _) rfl ?_
                      refine WL_val gd0 ((o_move (v := .int .i64 (IntKind.i64.wrap (i59 + 1))) rfl) _) rfl ?_
                      refine WL_call gd0 (o_call Try.call41 (argCons rfl argNil) _) rfl (h.mono ?_)
                      rintro _ w75 ⟨x76, rfl, h⟩
                      refine WL_val gd0 ((o_gtr rfl rfl) _) rfl ?_
                      refine WL_nil ?_
                      refine nrm ?_
                      refine WC_cond (t := (decide (x76 < (IntKind.i64.wrap (fails49 + 1))))) rfl (fun hb77 => ?_) (fun hb77 => ?_)
                      · rw [if_pos (of_decide_eq_true hb77)] at h
                        refine WC_seq ?_
                        refine WC_region ?_
                        refine WL_val gd0 ((o_move (v := .slice s_a1 s_n2 s_c3) (by exact e0_63)) _) rfl ?_
                        refine WL_val gd0 ((o_move (v := .int .i64 (IntKind.i64.wrap (i59 + 1))) rfl) _) rfl ?_
                        obtain ⟨c78, c79, h⟩ := h
                        refine WL_val gd0 ((o_sliceL Try.underlying29 Try.sizeOf5 rfl rfl c78 c79) _) rfl ?_
                        refine WL_val gd0 ((o_move (v := .slice sep_a4 sep_n5 sep_c6) (by exact e1_64)) _) rfl ?_
                        obtain ⟨r80, w81, r82, h⟩ := h
                        refine WL_val gd0 (o_callExt (argCons rfl (argCons rfl argNil)) r82) rfl ?_
                        refine WL_val gd0 ((o_assign (v := .int .i64 r80) rfl) _) rfl ?_
                        refine WL_nil ?_
                        refine nrm ?_
                        refine WC_seq ?_
                        refine WC_seq ?_
                        refine WC_region ?_
                        refine WL_val gd0 ((o_move (v := .int .i64 r80) rfl) _) rfl ?_
                        refine WL_val gd0 ((o_geq rfl rfl) _) rfl ?_
                        refine WL_nil ?_
                        refine nrm ?_
                        refine WC_cond (t := (decide (0 ≤ r80))) rfl (fun hb83 => ?_) (fun hb83 => ?_)
                        · rw [if_pos (of_decide_eq_true hb83)] at h
                          refine WC_seq ?_
                          refine WC_region ?_
                          refine WL_val gd0 ((o_move (v := .int .i64 r80) rfl) _) rfl ?_
                          refine WL_val gd0 ((o_move (v := .int .i64 (IntKind.i64.wrap (i59 + 1))) rfl) _) rfl ?_
                          refine WL_val gd0 ((o_add rfl rfl) _) rfl ?_
                          refine WL_val gd0 ((o_assign (v := .int .i64 (IntKind.i64.wrap (r80 + (IntKind.i64.wrap (i59 + 1))))) rfl) _) rfl ?_
                          refine WL_nil ?_
                          refine nrm ?_
                          refine WC_ret ?_
                          refine rtT ?_
                          refine rtB ?_
                          refine rtT ?_
                          refine rtB ?_
                          refine rtT ?_
                          refine rtB ?_
                          refine rtT ?_
                          refine rtE ?_
                          exact gv1 rfl rfl h
                        · rw [if_neg (of_decide_eq_false hb83)] at h
                          refine WC_skip ?_
                          refine nrm ?_
                          refine WC_seq ?_
                          refine WC_region ?_
                          refine WL_val gd0 ((o_assign (v := .int .i64 (-1)) rfl) _) rfl ?_
                          refine WL_nil ?_
                          refine nrm ?_
                          refine WC_ret ?_
                          refine rtB ?_
                          refine rtT ?_
                          refine rtB ?_
                          refine rtT ?_
                          refine rtB ?_
                          refine rtT ?_
                          refine rtE ?_
                          exact gv1 rfl rfl h
                      · rw [if_neg (of_decide_eq_false hb77)] at h
                        refine WC_skip ?_
                        refine nrmB ?_
                        refine nrm ?_
                        obtain ⟨m51, hm51, h⟩ := h
                        exact ⟨m51, hm51, _, _, rfl, rfl, e0_63, e1_64, e5_65, e6_66, e7_67, e9_69, h⟩
              · rw [if_neg (of_decide_eq_false hb52)] at h
                refine WC_exit ?_
                refine exT ?_
                refine exT ?_
                refine exB ?_
                refine nrm ?_
                refine WC_seq ?_
                refine WC_region ?_
                refine WL_val gd0 ((o_assign (v := .int .i64 (-1)) rfl) _) rfl ?_
                refine WL_nil ?_
                refine nrm ?_
                refine WC_ret ?_
                refine rtB ?_
                refine rtT ?_
                refine rtE ?_
                exact gv1 rfl rfl h
          · rw [if_neg (of_decide_eq_false hb25)] at h
            refine WC_skip ?_
            refine nrmB ?_
            refine nrm ?_
            refine WC_seq ?_
            refine WC_region ?_
            refine WL_val gd0 ((o_move (v := .slice sep_a4 sep_n5 sep_c6) (by exact e1)) _) rfl ?_
            obtain ⟨p111, q112, h⟩ := h
            obtain ⟨l109, u110, h⟩ := h
            refine WL_val gd0 ((o_indexAddr1 Try.underlying29 Try.sizeOf5 (by exact (congrArg (fun z => Value.slice z sep_n5 sep_c6) q112)) rfl l109 u110) _) rfl ?_
            obtain ⟨c0113, hc114, h⟩ := h
            refine WL_val gd0 (o_load Try.isAgg5 rfl hc114) rfl ?_
            refine WL_val gd0 ((o_assign (v := .int .u8 c0113) rfl) _) rfl ?_
            refine WL_nil ?_
            refine nrm ?_
            refine WC_seq ?_
            refine WC_region ?_
            refine WL_val gd0 ((o_move (v := .slice sep_a4 sep_n5 sep_c6) (by exact e1)) _) rfl ?_
            obtain ⟨l115, u116, h⟩ := h
            refine WL_val gd0 ((o_indexAddr1 Try.underlying29 Try.sizeOf5 (by exact (congrArg (fun z => Value.slice z sep_n5 sep_c6) q112)) rfl l115 u116) _) rfl ?_
            obtain ⟨c1117, hc118, h⟩ := h
            refine WL_val gd0 (o_load Try.isAgg5 rfl hc118) rfl ?_
            refine WL_val gd0 ((o_assign (v := .int .u8 c1117) rfl) _) rfl ?_
            refine WL_nil ?_
            refine nrm ?_
            refine WC_seq ?_
            refine WC_region ?_
            refine WL_val gd0 ((o_assign (v := .int .i64 0) rfl) _) rfl ?_
            refine WL_nil ?_
            refine nrm ?_
            refine WC_seq ?_
            refine WC_region ?_
            refine WL_val gd0 ((o_assign (v := .int .i64 0) rfl) _) rfl ?_
            refine WL_nil ?_
            refine nrm ?_
            refine WC_seq ?_
            refine WC_region ?_
            refine WL_val gd0 ((o_move (v := .slice s_a1 s_n2 s_c3) (by exact e0)) _) rfl ?_
            refine WL_val gd0 ((o_len Try.underlying29 rfl) _) rfl ?_
            refine WL_val gd0 ((o_move (v := .int .i64 (sep_n5 : Int)) rfl) _) rfl ?_
            refine WL_val gd0 ((o_sub rfl rfl) _) rfl ?_
            refine WL_val gd0 ((o_add rfl rfl) _) rfl ?_
            refine WL_val gd0 ((o_assign (v := .int .i64 (IntKind.i64.wrap ((IntKind.i64.wrap ((s_n2 : Int) - (sep_n5 : Int))) + 1))) rfl) _) rfl ?_
            refine WL_nil ?_
            refine nrm ?_
            refine WC_seq ?_
            refine WC_block ?_
            obtain ⟨J129, ⟨n129, h0⟩, hr129⟩ := h
            refine WC_loop (fun n ρ w' => ∃ (i125 fails127 : Int), ρ 15 = .int .i64 i125 ∧ ρ 16 = .int .i64 fails127 ∧ ρ 0 = .slice s_a1 s_n2 s_c3 ∧ ρ 1 = .slice sep_a4 sep_n5 sep_c6 ∧ ρ 5 = .int .i64 (sep_n5 : Int) ∧ ρ 13 = .int .u8 c0113 ∧ ρ 14 = .int .u8 c1117 ∧ ρ 17 = .int .i64 (IntKind.i64.wrap ((IntKind.i64.wrap ((s_n2 : Int) - (sep_n5 : Int))) + 1)) ∧ J129 n (i125, fails127) w') ⟨n129, _, _, rfl, rfl, e0, e1, rfl, rfl, rfl, rfl, h0⟩ ?_
            rintro n129 ρ w129 ⟨i125, fails127, e15_124, e16_126, e0_119, e1_120, e5_121, e13_122, e14_123, e17_128, h⟩
            have h : F36_b4 s_n2 sep_n5 s_a1 c0113 s_c3 c1117 sep_a4 sep_c6 i125 fails127 w129 k (fun x0 x1 w => ∃ m, m < n129 ∧ J129 m (x0, x1) w) := hr129 n129 (i125, fails127) w129 h
            unfold F36_b4 at h
            refine WC_seq ?_
            refine WC_seq ?_
            refine WC_region ?_
            refine WL_val gd0 ((o_move (v := .int .i64 i125) (by exact e15_124)) _) rfl ?_
            refine WL_val gd0 ((o_move (v := .int .i64 (IntKind.i64.wrap ((IntKind.i64.wrap ((s_n2 : Int) - (sep_n5 : Int))) + 1))) (by exact e17_128)) _) rfl ?_
            refine WL_val gd0 ((o_lss rfl rfl) _) rfl ?_
            refine WL_nil ?_
            refine nrm ?_
            refine WC_cond (t := (decide (i125 < (IntKind.i64.wrap ((IntKind.i64.wrap ((s_n2 : Int) - (sep_n5 : Int))) + 1))))) rfl (fun hb131 => ?_) (fun hb131 => ?_)
            · rw [if_pos (of_decide_eq_true hb131)] at h
              refine WC_skip ?_
              refine nrm ?_
              refine WC_block ?_
              refine WC_cut (fun ρ w' => ∃ (i138 : Int), ρ 15 = .int .i64 i138 ∧ ρ 0 = .slice s_a1 s_n2 s_c3 ∧ ρ 1 = .slice sep_a4 sep_n5 sep_c6 ∧ ρ 5 = .int .i64 (sep_n5 : Int) ∧ ρ 13 = .int .u8 c0113 ∧ ρ 14 = .int .u8 c1117 ∧ ρ 16 = .int .i64 fails127 ∧ ρ 17 = .int .i64 (IntKind.i64.wrap ((IntKind.i64.wrap ((s_n2 : Int) - (sep_n5 : Int))) + 1)) ∧ F36_j5 s_a1 s_n2 c1117 sep_n5 s_c3 sep_a4 sep_c6 fails127 i138 w' k (fun x0 x1 w => ∃ m, m < n129 ∧ J129 m (x0, x1) w)) ?_ ?_
              · refine WC_seq ?_
                refine WC_region ?_
                refine WL_val gd0 ((o_move (v := .slice s_a1 s_n2 s_c3) (by exact e0_119)) _) rfl ?_
                refine WL_val gd0 ((o_move (v := .int .i64 i125) (by exact e15_124)) _) rfl ?_
                obtain ⟨p186, q187, h⟩ := h
                obtain ⟨l184, u185, h⟩ := h
                refine WL_val gd0 ((o_indexAddr1 Try.underlying29 Try.sizeOf5 (by exact (congrArg (fun z => Value.slice z s_n2 s_c3) q187)) rfl l184 u185) _) rfl ?_
                obtain ⟨x188, hc189, h⟩ := h
                refine WL_val gd0 (o_load Try.isAgg5 rfl hc189) rfl ?_
                refine WL_val gd0 ((o_move (v := .int .u8 c0113) (by exact e13_122)) _) rfl ?_
                refine WL_val gd0 ((o_neq rfl rfl) _) rfl ?_
                refine WL_nil ?_
                refine nrm ?_
                refine WC_cond (t := (decide (x188 ≠ c0113))) rfl (fun hb190 => ?_) (fun hb190 => ?_)
                · rw [if_pos (of_decide_eq_true hb190)] at h
                  refine WC_seq ?_
                  refine WC_region ?_
                  refine WL_val gd0 ((o_move (v := .slice s_a1 s_n2 s_c3) (by exact e0_119)) _) rfl ?_
                  refine WL_val gd0 ((o_move (v := .int .i64 i125) (by exact e15_124)) _) rfl ?_
                  refine WL_val gd0 ((o_add rfl rfl) _) rfl ?_
                  refine WL_val gd0 ((o_move (v := .int .i64 (IntKind.i64.wrap ((IntKind.i64.wrap ((s_n2 : Int) - (sep_n5 : Int))) + 1))) (by exact e17_128)) _) rfl ?_
                  obtain ⟨c191, c192, c193, h⟩ := h
                  refine WL_val gd0 ((o_sliceLH Try.underlying29 Try.sizeOf5 rfl rfl rfl c191 c192 c193) _) rfl ?_
                  refine WL_val gd0 ((o_move (v := .int .u8 c0113) (by exact e13_122)) _) rfl ?_
                  refine WL_call gd0 (o_call Try.call38 (argCons rfl (argCons rfl argNil)) _) rfl (h.mono ?_)
                  rintro _ w194 ⟨o195, rfl, h⟩
                  refine WL_val gd0 ((o_assign (v := .int .i64 o195) rfl) _) rfl ?_
                  refine WL_nil ?_
                  refine nrm ?_
                  refine WC_seq ?_
                  refine WC_seq ?_
                  refine WC_region ?_
                  refine WL_val gd0 ((o_move (v := .int .i64 o195) rfl) _) rfl ?_
                  refine WL_val gd0 ((o_lss rfl rfl) _) rfl ?_
                  refine WL_nil ?_
                  refine nrm ?_
                  refine WC_cond (t := (decide (o195 < 0))) rfl (fun hb196 => ?_) (fun hb196 => ?_)
                  · rw [if_pos (of_decide_eq_true hb196)] at h
                    refine WC_exit ?_
                    refine exT ?_
                    refine exT ?_
                    refine exO rfl ?_
                    refine exT ?_
                    refine exB ?_
                    refine nrm ?_
                    refine WC_seq ?_
                    refine WC_region ?_
                    refine WL_val gd0 ((o_assign (v := .int .i64 (-1)) rfl) _) rfl ?_
                    refine WL_nil ?_
                    refine nrm ?_
                    refine WC_ret ?_
                    refine rtE ?_
                    exact gv1 rfl rfl h
                  · rw [if_neg (of_decide_eq_false hb196)] at h
                    refine WC_skip ?_
                    refine nrm ?_
                    refine WC_region ?_
                    refine WL_val gd0 ((o_move (v := .int .i64 i125) (by exact e15_124)) _) rfl ?_
                    refine WL_val gd0 ((o_move (v := .int .i64 o195) rfl) _) rfl ?_
                    refine WL_val gd0 ((o_add rfl rfl) _) rfl ?_
                    refine WL_val gd0 ((o_add rfl rfl) _) rfl ?_
                    refine WL_val gd0 ((o_assign (v := .int .i64 (IntKind.i64.wrap (i125 + (IntKind.i64.wrap (o195 + 1))))) rfl) _) rfl ?_
                    refine WL_nil ?_
                    refine nrm ?_
                    exact ⟨_, rfl, e0_119, e1_120, e5_121, e13_122, e14_123, e16_126, e17_128, h⟩
                · rw [if_neg (of_decide_eq_false hb190)] at h
                  refine WC_skip ?_
                  refine nrm ?_
                  exact ⟨_, e15_124, e0_119, e1_120, e5_121, e13_122, e14_123, e16_126, e17_128, h⟩
              · rintro ρ w141 ⟨i138, e15_137, e0_132, e1_133, e5_134, e13_135, e14_136, e16_139, e17_140, h⟩
                unfold F36_j5 at h
                refine WC_seq ?_
                refine WC_cut (fun ρ w' => ∃ (t151 : Bool), ρ 174 = .bool t151 ∧ ρ 0 = .slice s_a1 s_n2 s_c3 ∧ ρ 1 = .slice sep_a4 sep_n5 sep_c6 ∧ ρ 5 = .int .i64 (sep_n5 : Int) ∧ ρ 13 = .int .u8 c0113 ∧ ρ 14 = .int .u8 c1117 ∧ ρ 15 = .int .i64 i138 ∧ ρ 16 = .int .i64 fails127 ∧ ρ 17 = .int .i64 (IntKind.i64.wrap ((IntKind.i64.wrap ((s_n2 : Int) - (sep_n5 : Int))) + 1)) ∧ F36_j6 i138 fails127 s_n2 s_a1 s_c3 sep_a4 sep_n5 sep_c6 t151 w' k (fun x0 x1 w => ∃ m, m < n129 ∧ J129 m (x0, x1) w)) ?_ ?_
                · refine WC_region ?_
                  refine WL_val gd0 ((o_move (v := .slice s_a1 s_n2 s_c3) (by exact e0_132)) _) rfl ?_
                  refine WL_val gd0 ((o_move (v := .int .i64 i138) (by exact e15_137)) _) rfl ?_
                  refine WL_val gd0 ((o_add rfl rfl) _) rfl ?_
                  obtain ⟨p174, q175, h⟩ := h
                  obtain ⟨l172, u173, h⟩ := h
                  refine WL_val gd0 ((o_indexAddr1 Try.underlying29 Try.sizeOf5 (by exact (congrArg (fun z => Value.slice z s_n2 s_c3) q175)) rfl l172 u173) _) rfl ?_
                  obtain ⟨x176, hc177, h⟩ := h
                  refine WL_val gd0 (o_load Try.isAgg5 rfl hc177) rfl ?_
                  refine WL_val gd0 ((o_move (v := .int .u8 c1117) (by exact e14_136)) _) rfl ?_
                  refine WL_val gd0 ((o_eql rfl rfl) _) rfl ?_
                  refine WL_val gd0 ((o_move (v := .bool (decide (x176 = c1117))) rfl) _) rfl ?_
                  refine bsplit (decide (x176 = c1117)) (fun hb178 => ?_) (fun hb178 => ?_)
                  · rw [if_pos (of_decide_eq_true hb178)] at h
                    refine WL_val (gdY (b := (decide (x176 = c1117))) 165 rfl rfl hb178) ((o_move (v := .slice s_a1 s_n2 s_c3) (by exact e0_132)) _) rfl ?_
                    refine WL_val (gdY (b := (decide (x176 = c1117))) 165 rfl rfl hb178) ((o_move (v := .int .i64 i138) (by exact e15_137)) _) rfl ?_
                    refine WL_val (gdY (b := (decide (x176 = c1117))) 165 rfl rfl hb178) ((o_move (v := .int .i64 i138) (by exact e15_137)) _) rfl ?_
                    refine WL_val (gdY (b := (decide (x176 = c1117))) 165 rfl rfl hb178) ((o_move (v := .int .i64 (sep_n5 : Int)) (by exact e5_134)) _) rfl ?_
                    refine WL_val (gdY (b := (decide (x176 = c1117))) 165 rfl rfl hb178) ((o_add rfl rfl) _) rfl ?_
                    obtain ⟨c179, c180, c181, h⟩ := h
                    refine WL_val (gdY (b := (decide (x176 = c1117))) 165 rfl rfl hb178) ((o_sliceLH Try.underlying29 Try.sizeOf5 rfl rfl rfl c179 c180 c181) _) rfl ?_
                    refine WL_val (gdY (b := (decide (x176 = c1117))) 165 rfl rfl hb178) ((o_move (v := .slice sep_a4 sep_n5 sep_c6) (by exact e1_133)) _) rfl ?_
                    refine WL_call (gdY (b := (decide (x176 = c1117))) 165 rfl rfl hb178) (o_call Try.call39 (argCons rfl (argCons rfl argNil)) _) rfl (h.mono ?_)
                    rintro _ w182 ⟨x183, rfl, h⟩
                    refine WL_val gd0 ((o_pickT (v := .bool x183) rfl hb178 rfl) _) rfl ?_
                    refine WL_nil ?_
                    refine nrm ?_
                    exact ⟨_, rfl, e0_132, e1_133, e5_134, e13_135, e14_136, e15_137, e16_139, e17_140, h⟩
                  · rw [if_neg (of_decide_eq_false hb178)] at h
                    refine WL_skip (gdN (b := (decide (x176 = c1117))) 165 rfl rfl hb178) rfl ?_
                    refine WL_skip (gdN (b := (decide (x176 = c1117))) 165 rfl rfl hb178) rfl ?_
                    refine WL_skip (gdN (b := (decide (x176 = c1117))) 165 rfl rfl hb178) rfl ?_
                    refine WL_skip (gdN (b := (decide (x176 = c1117))) 165 rfl rfl hb178) rfl ?_
                    refine WL_skip (gdN (b := (decide (x176 = c1117))) 165 rfl rfl hb178) rfl ?_
                    refine WL_skip (gdN (b := (decide (x176 = c1117))) 165 rfl rfl hb178) rfl ?_
                    refine WL_skip (gdN (b := (decide (x176 = c1117))) 165 rfl rfl hb178) rfl ?_
                    refine WL_skip (gdN (b := (decide (x176 = c1117))) 165 rfl rfl hb178) rfl ?_
                    refine WL_val gd0 ((o_pickF (v := .bool false) rfl hb178 rfl) _) rfl ?_
                    refine WL_nil ?_
                    refine nrm ?_
                    exact ⟨_, rfl, e0_132, e1_133, e5_134, e13_135, e14_136, e15_137, e16_139, e17_140, h⟩
                · rintro ρ w152 ⟨t151, e174_150, e0_142, e1_143, e5_144, e13_145, e14_146, e15_147, e16_148, e17_149, h⟩
                  unfold F36_j6 at h
                  refine WC_cond (t := t151) (by exact e174_150) (fun hb153 => ?_) (fun hb153 => ?_)
                  · rw [if_pos hb153] at h
                    refine WC_seq ?_
                    refine WC_region ?_
                    refine WL_val gd0 ((o_move (v := .int .i64 i138) (by exact e15_147)) _) rfl ?_
                    refine WL_val gd0 ((o_assign (v := .int .i64 i138) rfl) _) rfl ?_
                    refine WL_nil ?_
                    refine nrm ?_
                    refine WC_ret ?_
                    refine rtT ?_
                    refine rtB ?_
                    refine rtT ?_
                    refine rtB ?_
                    refine rtT ?_
                    refine rtE ?_
                    exact gv1 rfl rfl h
                  · rw [if_neg (neT hb153)] at h
                    refine WC_skip ?_
                    refine nrm ?_
                    refine WC_seq ?_
                    refine WC_region ?_
                    refine WL_val gd0 ((o_move (v := .int .i64 i138) (by exact e15_147)) _) rfl ?_
                    refine WL_val gd0 ((o_add rfl rfl) _) rfl ?_
                    refine WL_val gd0 ((o_assign (v := .int .i64 (IntKind.i64.wrap (i138 + 1))) rfl) _) rfl ?_
                    refine WL_nil ?_
                    refine nrm ?_
                    refine WC_seq ?_
                    refine WC_region ?_
                    refine WL_val gd0 ((o_move (v := .int .i64 fails127) (by exact e16_148)) _) rfl ?_
                    refine WL_val gd0 ((o_add rfl rfl) _) rfl ?_
                    refine WL_val gd0 ((o_assign (v := .int .i64 (IntKind.i64.wrap (fails127 + 1))) rfl) _) rfl ?_
                    refine WL_nil ?_
                    refine nrm ?_
                    refine WC_cut (fun ρ w' => ∃ (t163 : Bool), ρ 189 = .bool t163 ∧ ρ 0 = .slice s_a1 s_n2 s_c3 ∧ ρ 1 = .slice sep_a4 sep_n5 sep_c6 ∧ ρ 5 = .int .i64 (sep_n5 : Int) ∧ ρ 13 = .int .u8 c0113 ∧ ρ 14 = .int .u8 c1117 ∧ ρ 15 = .int .i64 (IntKind.i64.wrap (i138 + 1)) ∧ ρ 16 = .int .i64 (IntKind.i64.wrap (fails127 + 1)) ∧ ρ 17 = .int .i64 (IntKind.i64.wrap ((IntKind.i64.wrap ((s_n2 : Int) - (sep_n5 : Int))) + 1)) ∧ F36_j7 i138 s_n2 s_a1 s_c3 sep_a4 sep_n5 sep_c6 fails127 t163 w' k (fun x0 x1 w => ∃ m, m < n129 ∧ J129 m (x0, x1) w)) ?_ ?_
                    · refine WC_region ?_
                      refine WL_val gd0 ((o_move (v := .int .i64 (IntKind.i64.wrap (fails127 + 1))) rfl) _) rfl ?_
                      refine WL_val gd0 ((o_move (v := .int .i64 (IntKind.i64.wrap (i138 + 1))) rfl) _) rfl ?_
                      refine WL_val gd0 ((o_shr rfl rfl (by decide)) _) rfl ?_
                      refine WL_val gd0 ((o_add rfl rfl) _) rfl ?_
                      refine WL_val gd0 ((o_geq rfl rfl) _) rfl ?_
                      refine WL_val gd0 ((o_move (v := .bool (decide ((IntKind.i64.wrap (4 + (shr .i64 (IntKind.i64.wrap (i138 + 1)) 4))) ≤ (IntKind.i64.wrap (fails127 + 1))))) rfl) _) rfl ?_
                      refine bsplit (decide ((IntKind.i64.wrap (4 + (shr .i64 (IntKind.i64.wrap (i138 + 1)) 4))) ≤ (IntKind.i64.wrap (fails127 + 1)))) (fun hb171 => ?_) (fun hb171 => ?_)
                      · rw [if_pos (of_decide_eq_true hb171)] at h
                        refine WL_val (gdY (b := (decide ((IntKind.i64.wrap (4 + (shr .i64 (IntKind.i64.wrap (i138 + 1)) 4))) ≤ (IntKind.i64.wrap (fails127 + 1))))) 185 rfl rfl hb171) ((o_move (v := .int .i64 (IntKind.i64.wrap (i138 + 1))) rfl) _) rfl ?_
                        refine WL_val (gdY (b := (decide ((IntKind.i64.wrap (4 + (shr .i64 (IntKind.i64.wrap (i138 + 1)) 4))) ≤ (IntKind.i64.wrap (fails127 + 1))))) 185 rfl rfl hb171) ((o_move (v := .int .i64 (IntKind.i64.wrap ((IntKind.i64.wrap ((s_n2 : Int) - (sep_n5 : Int))) + 1))) (by exact e17_149)) _) rfl ?_
                        refine WL_val (gdY (b := (decide ((IntKind.i64.wrap (4 + (shr .i64 (IntKind.i64.wrap (i138 + 1)) 4))) ≤ (IntKind.i64.wrap (fails127 + 1))))) 185 rfl rfl hb171) ((o_lss rfl rfl) _) rfl ?_
                        refine WL_val gd0 ((o_pickT (v := .bool (decide ((IntKind.i64.wrap (i138 + 1)) < (IntKind.i64.wrap ((IntKind.i64.wrap ((s_n2 : Int) - (sep_n5 : Int))) + 1))))) rfl hb171 rfl) _) rfl ?_
                        refine WL_nil ?_
                        refine nrm ?_
                        exact ⟨_, rfl, e0_142, e1_143, e5_144, e13_145, e14_146, rfl, rfl, e17_149, h⟩
                      · rw [if_neg (of_decide_eq_false hb171)] at h
                        refine WL_skip (gdN (b := (decide ((IntKind.i64.wrap (4 + (shr .i64 (IntKind.i64.wrap (i138 + 1)) 4))) ≤ (IntKind.i64.wrap (fails127 + 1))))) 185 rfl rfl hb171) rfl ?_
                        refine WL_skip (gdN (b := (decide ((IntKind.i64.wrap (4 + (shr .i64 (IntKind.i64.wrap (i138 + 1)) 4))) ≤ (IntKind.i64.wrap (fails127 + 1))))) 185 rfl rfl hb171) rfl ?_
                        refine WL_skip (gdN (b := (decide ((IntKind.i64.wrap (4 + (shr .i64 (IntKind.i64.wrap (i138 + 1)) 4))) ≤ (IntKind.i64.wrap (fails127 + 1))))) 185 rfl rfl hb171) rfl ?_
                        refine WL_val gd0 ((o_pickF (v := .bool false) rfl hb171 rfl) _) rfl ?_
                        refine WL_nil ?_
                        refine nrm ?_
                        exact ⟨_, rfl, e0_142, e1_143, e5_144, e13_145, e14_146, rfl, rfl, e17_149, h⟩
                    · rintro ρ w164 ⟨t163, e189_162, e0_154, e1_155, e5_156, e13_157, e14_158, e15_159, e16_160, e17_161, h⟩
                      unfold F36_j7 at h
                      refine WC_cond (t := t163) (by exact e189_162) (fun hb165 => ?_) (fun hb165 => ?_)
                      · rw [if_pos hb165] at h
                        refine WC_seq ?_
                        refine WC_region ?_
                        refine WL_val gd0 ((o_move (v := .slice s_a1 s_n2 s_c3) (by exact e0_154)) _) rfl ?_
                        refine WL_val gd0 ((o_move (v := .int .i64 (IntKind.i64.wrap (i138 + 1))) (by exact e15_159)) _) rfl ?_
                        obtain ⟨c166, c167, h⟩ := h
                        refine WL_val gd0 ((o_sliceL Try.underlying29 Try.sizeOf5 rfl rfl c166 c167) _) rfl ?_
                        refine WL_val gd0 ((o_move (v := .slice sep_a4 sep_n5 sep_c6) (by exact e1_155)) _) rfl ?_
                        refine WL_call gd0 (o_call Try.call42 (argCons rfl (argCons rfl argNil)) _) rfl (h.mono ?_)
                        rintro _ w168 ⟨j169, rfl, h⟩
                        refine WL_val gd0 ((o_assign (v := .int .i64 j169) rfl) _) rfl ?_
                        refine WL_nil ?_
                        refine nrm ?_
                        refine WC_seq ?_
                        refine WC_seq ?_
                        refine WC_region ?_
                        refine WL_val gd0 ((o_move (v := .int .i64 j169) rfl) _) rfl ?_
                        refine WL_val gd0 ((o_lss rfl rfl) _) rfl ?_
                        refine WL_nil ?_
                        refine nrm ?_
                        refine WC_cond (t := (decide (j169 < 0))) rfl (fun hb170 => ?_) (fun hb170 => ?_)
                        · rw [if_pos (of_decide_eq_true hb170)] at h
                          refine WC_seq ?_
                          refine WC_region ?_
                          refine WL_val gd0 ((o_assign (v := .int .i64 (-1)) rfl) _) rfl ?_
                          refine WL_nil ?_
                          refine nrm ?_
                          refine WC_ret ?_
                          refine rtT ?_
                          refine rtB ?_
                          refine rtT ?_
                          refine rtB ?_
                          refine rtT ?_
                          refine rtE ?_
                          exact gv1 rfl rfl h
                        · rw [if_neg (of_decide_eq_false hb170)] at h
                          refine WC_skip ?_
                          refine nrm ?_
                          refine WC_seq ?_
                          refine WC_region ?_
                          refine WL_val gd0 ((o_move (v := .int .i64 (IntKind.i64.wrap (i138 + 1))) (by exact e15_159)) _) rfl ?_
                          refine WL_val gd0 ((o_move (v := .int .i64 j169) rfl) _) rfl ?_
                          refine WL_val gd0 ((o_add rfl rfl) _) rfl ?_
                          refine WL_val gd0 ((o_assign (v := .int .i64 (IntKind.i64.wrap ((IntKind.i64.wrap (i138 + 1)) + j169))) rfl) _) rfl ?_
                          refine WL_nil ?_
                          refine nrm ?_
                          refine WC_ret ?_
                          refine rtB ?_
                          refine rtT ?_
                          refine rtB ?_
                          refine rtT ?_
                          refine rtE ?_
                          exact gv1 rfl rfl h
                      · rw [if_neg (neT hb165)] at h
                        refine WC_skip ?_
                        refine nrmB ?_
                        refine nrm ?_
                        obtain ⟨m130, hm130, h⟩ := h
                        exact ⟨m130, hm130, _, _, e15_159, e16_160, e0_154, e1_155, e5_156, e13_157, e14_158, e17_161, h⟩
            · rw [if_neg (of_decide_eq_false hb131)] at h
              refine WC_exit ?_
              refine exT ?_
              refine exT ?_
              refine exB ?_
              refine nrm ?_
              refine WC_seq ?_
              refine WC_region ?_
              refine WL_val gd0 ((o_assign (v := .int .i64 (-1)) rfl) _) rfl ?_
              refine WL_nil ?_
              refine nrm ?_
              refine WC_ret ?_
              refine rtE ?_
              exact gv1 rfl rfl h

-- STUCK 37 unicode/utf8.RuneCountInString: op Op.range
/-- bytes.IndexByte -/
def F38 (b_a1 : Option Addr) (b_n2 : Nat) (b_c3 : Nat) (c4 : Int) (w5 : World) (k : Value → World → Prop) : Prop :=
  ∃ (t6 : Int) (w7 : World), (callFunc 43 #[.slice b_a1 b_n2 b_c3, .int .u8 c4]).run Try.prog w5 = .ok (.value (.int .i64 t6)) w7 ∧ k (.int .i64 t6) w7
set_option maxRecDepth 100000 in
set_option maxHeartbeats 2000000 in
theorem w38 (b_a1 : Option Addr) (b_n2 : Nat) (b_c3 : Nat) (c4 : Int) (w5 : World) (k : Value → World → Prop) (h : F38 b_a1 b_n2 b_c3 c4 w5 k) : Does Try.prog 38 #[.slice b_a1 b_n2 b_c3, .int .u8 c4] w5 k := by
  refine enter 8 Try.func38 rfl rfl rfl ?_
  intro ρ hρ
  have e0 := hρ 0 _ rfl
  have e1 := hρ 1 _ rfl
  unfold F38 at h
  refine WC_seq ?_
  refine WC_region ?_
  refine WL_val gd0 ((o_assign (v := .int .i64 0) rfl) _) rfl ?_
  refine WL_nil ?_
  refine nrm ?_
  refine WC_seq ?_
  refine WC_region ?_
  refine WL_val gd0 ((o_move (v := .slice b_a1 b_n2 b_c3) (by exact e0)) _) rfl ?_
  refine WL_val gd0 ((o_move (v := .int .u8 c4) (by exact e1)) _) rfl ?_
  obtain ⟨t6, w7, r8, h⟩ := h
  refine WL_val gd0 (o_callExt (argCons rfl (argCons rfl argNil)) r8) rfl ?_
  refine WL_val gd0 ((o_assign (v := .int .i64 t6) rfl) _) rfl ?_
  refine WL_nil ?_
  refine nrm ?_
  refine WC_ret ?_
  refine rtE ?_
  exact gv1 rfl rfl h

/-- bytes.Equal -/
def F39 (a_a1 : Option Addr) (a_n2 : Nat) (a_c3 : Nat) (b_a4 : Option Addr) (b_n5 : Nat) (b_c6 : Nat) (w7 : World) (k : Value → World → Prop) : Prop :=
  ∃ (s8 : ByteArray), (Conv.bytesToString (.slice a_a1 a_n2 a_c3)).run Try.prog w7 = .ok (.string s8) w7 ∧ ∃ (s10 : ByteArray), (Conv.bytesToString (.slice b_a4 b_n5 b_c6)).run Try.prog w7 = .ok (.string s10) w7 ∧ k (.bool (s8.toList == s10.toList)) w7
set_option maxRecDepth 100000 in
set_option maxHeartbeats 2000000 in
theorem w39 (a_a1 : Option Addr) (a_n2 : Nat) (a_c3 : Nat) (b_a4 : Option Addr) (b_n5 : Nat) (b_c6 : Nat) (w7 : World) (k : Value → World → Prop) (h : F39 a_a1 a_n2 a_c3 b_a4 b_n5 b_c6 w7 k) : Does Try.prog 39 #[.slice a_a1 a_n2 a_c3, .slice b_a4 b_n5 b_c6] w7 k := by
  refine enter 10 Try.func39 rfl rfl rfl ?_
  intro ρ hρ
  have e0 := hρ 0 _ rfl
  have e1 := hρ 1 _ rfl
  unfold F39 at h
  refine WC_seq ?_
  refine WC_region ?_
  refine WL_val gd0 ((o_assign (v := .bool false) rfl) _) rfl ?_
  refine WL_nil ?_
  refine nrm ?_
  refine WC_seq ?_
  refine WC_region ?_
  refine WL_val gd0 ((o_move (v := .slice a_a1 a_n2 a_c3) (by exact e0)) _) rfl ?_
  obtain ⟨s8, r9, h⟩ := h
  refine WL_val gd0 (o_toStr Try.underlying29 Try.underlying5 Try.underlying9 rfl r9) rfl ?_
  refine WL_val gd0 ((o_move (v := .slice b_a4 b_n5 b_c6) (by exact e1)) _) rfl ?_
  obtain ⟨s10, r11, h⟩ := h
  refine WL_val gd0 (o_toStr Try.underlying29 Try.underlying5 Try.underlying9 rfl r11) rfl ?_
  refine WL_val gd0 ((o_eqlStr rfl rfl) _) rfl ?_
  refine WL_val gd0 ((o_assign (v := .bool (s8.toList == s10.toList)) rfl) _) rfl ?_
  refine WL_nil ?_
  refine nrm ?_
  refine WC_ret ?_
  refine rtE ?_
  exact gv1 rfl rfl h

/-- internal bytealg.Cutover -/
def F41 (n1 : Int) (w2 : World) (k : Value → World → Prop) : Prop :=
  k (.int .i64 (IntKind.i64.wrap (Int.tdiv (IntKind.i64.wrap (n1 + 16)) 8))) w2
set_option maxRecDepth 100000 in
set_option maxHeartbeats 2000000 in
theorem w41 (n1 : Int) (w2 : World) (k : Value → World → Prop) (h : F41 n1 w2 k) : Does Try.prog 41 #[.int .i64 n1] w2 k := by
  refine enter 6 Try.func41 rfl rfl rfl ?_
  intro ρ hρ
  have e0 := hρ 0 _ rfl
  unfold F41 at h
  refine WC_seq ?_
  refine WC_region ?_
  refine WL_val gd0 ((o_assign (v := .int .i64 0) rfl) _) rfl ?_
  refine WL_nil ?_
  refine nrm ?_
  refine WC_seq ?_
  refine WC_region ?_
  refine WL_val gd0 ((o_move (v := .int .i64 n1) (by exact e0)) _) rfl ?_
  refine WL_val gd0 ((o_add rfl rfl) _) rfl ?_
  refine WL_val gd0 ((fun w => o_quo rfl rfl w (by decide)) _) rfl ?_
  refine WL_val gd0 ((o_assign (v := .int .i64 (IntKind.i64.wrap (Int.tdiv (IntKind.i64.wrap (n1 + 16)) 8))) rfl) _) rfl ?_
  refine WL_nil ?_
  refine nrm ?_
  refine WC_ret ?_
  refine rtE ?_
  exact gv1 rfl rfl h

def F42_j3 (i45 : Int) (sep_n5 : Nat) (h43 : Int) (x53 : Int) (r10 : Int) (x57 : Int) (t67 : Bool) (w68 : World) (k : Value → World → Prop) (nx46 : Int → Int → World → Prop) : Prop :=
  if t67 = true then
  k (.int .i64 (IntKind.i64.wrap ((IntKind.i64.wrap (i45 + 1)) - (sep_n5 : Int)))) w68
else
  nx46 (IntKind.u32.wrap ((IntKind.u32.wrap ((IntKind.u32.wrap (h43 * 16777619)) + (IntKind.u32.wrap x53))) - (IntKind.u32.wrap (r10 * (IntKind.u32.wrap x57))))) (IntKind.i64.wrap (i45 + 1)) w68
def F42_b2 (s_n2 : Nat) (s_a1 : Option Addr) (sep_n5 : Nat) (r10 : Int) (r9 : Int) (s_c3 : Nat) (sep_a4 : Option Addr) (sep_c6 : Nat) (h43 : Int) (i45 : Int) (w46 : World) (k : Value → World → Prop) (nx46 : Int → Int → World → Prop) : Prop :=
  if i45 < (s_n2 : Int) then
  ∃ (p51 : Addr), s_a1 = some p51 ∧ (0 : Int) ≤ i45 ∧ i45 < (s_n2 : Int) ∧ ∃ (x53 : Int), w46.cell? (p51.add i45.toNat) = some (.int .u8 x53) ∧ (0 : Int) ≤ IntKind.i64.wrap (i45 - (sep_n5 : Int)) ∧ IntKind.i64.wrap (i45 - (sep_n5 : Int)) < (s_n2 : Int) ∧ ∃ (x57 : Int), w46.cell? (p51.add ((IntKind.i64.wrap (i45 - (sep_n5 : Int))).toNat)) = some (.int .u8 x57) ∧ if (IntKind.u32.wrap ((IntKind.u32.wrap ((IntKind.u32.wrap (h43 * 16777619)) + (IntKind.u32.wrap x53))) - (IntKind.u32.wrap (r10 * (IntKind.u32.wrap x57))))) = r9 then
    (0 : Int) ≤ IntKind.i64.wrap ((IntKind.i64.wrap (i45 + 1)) - (sep_n5 : Int)) ∧ IntKind.i64.wrap ((IntKind.i64.wrap (i45 + 1)) - (sep_n5 : Int)) ≤ (IntKind.i64.wrap (i45 + 1) : Int) ∧ IntKind.i64.wrap (i45 + 1) ≤ (s_c3 : Int) ∧ ∃ (s74 : ByteArray), (Conv.bytesToString (.slice (cutA s_a1 s_c3 ((IntKind.i64.wrap ((IntKind.i64.wrap (i45 + 1)) - (sep_n5 : Int))).toNat) 1) ((IntKind.i64.wrap (i45 + 1)).toNat - (IntKind.i64.wrap ((IntKind.i64.wrap (i45 + 1)) - (sep_n5 : Int))).toNat) (s_c3 - (IntKind.i64.wrap ((IntKind.i64.wrap (i45 + 1)) - (sep_n5 : Int))).toNat))).run Try.prog w46.drew = .ok (.string s74) w46.drew ∧ ∃ (s76 : ByteArray), (Conv.bytesToString (.slice sep_a4 sep_n5 sep_c6)).run Try.prog w46.drew = .ok (.string s76) w46.drew ∧ F42_j3 i45 sep_n5 h43 x53 r10 x57 (s74.toList == s76.toList) w46.drew k nx46
  else
    F42_j3 i45 sep_n5 h43 x53 r10 x57 false w46.drew k nx46
else
  k (.int .i64 (-1)) w46
def F42_j5 (i86 : Int) (sep_n5 : Nat) (h84 : Int) (x94 : Int) (r10 : Int) (x98 : Int) (t108 : Bool) (w109 : World) (k : Value → World → Prop) (nx87 : Int → Int → World → Prop) : Prop :=
  if t108 = true then
  k (.int .i64 (IntKind.i64.wrap ((IntKind.i64.wrap (i86 + 1)) - (sep_n5 : Int)))) w109
else
  nx87 (IntKind.u32.wrap ((IntKind.u32.wrap ((IntKind.u32.wrap (h84 * 16777619)) + (IntKind.u32.wrap x94))) - (IntKind.u32.wrap (r10 * (IntKind.u32.wrap x98))))) (IntKind.i64.wrap (i86 + 1)) w109
def F42_b4 (s_n2 : Nat) (s_a1 : Option Addr) (sep_n5 : Nat) (r10 : Int) (r9 : Int) (s_c3 : Nat) (sep_a4 : Option Addr) (sep_c6 : Nat) (h84 : Int) (i86 : Int) (w87 : World) (k : Value → World → Prop) (nx87 : Int → Int → World → Prop) : Prop :=
  if i86 < (s_n2 : Int) then
  ∃ (p92 : Addr), s_a1 = some p92 ∧ (0 : Int) ≤ i86 ∧ i86 < (s_n2 : Int) ∧ ∃ (x94 : Int), w87.cell? (p92.add i86.toNat) = some (.int .u8 x94) ∧ (0 : Int) ≤ IntKind.i64.wrap (i86 - (sep_n5 : Int)) ∧ IntKind.i64.wrap (i86 - (sep_n5 : Int)) < (s_n2 : Int) ∧ ∃ (x98 : Int), w87.cell? (p92.add ((IntKind.i64.wrap (i86 - (sep_n5 : Int))).toNat)) = some (.int .u8 x98) ∧ if (IntKind.u32.wrap ((IntKind.u32.wrap ((IntKind.u32.wrap (h84 * 16777619)) + (IntKind.u32.wrap x94))) - (IntKind.u32.wrap (r10 * (IntKind.u32.wrap x98))))) = r9 then
    (0 : Int) ≤ IntKind.i64.wrap ((IntKind.i64.wrap (i86 + 1)) - (sep_n5 : Int)) ∧ IntKind.i64.wrap ((IntKind.i64.wrap (i86 + 1)) - (sep_n5 : Int)) ≤ (IntKind.i64.wrap (i86 + 1) : Int) ∧ IntKind.i64.wrap (i86 + 1) ≤ (s_c3 : Int) ∧ ∃ (s115 : ByteArray), (Conv.bytesToString (.slice (cutA s_a1 s_c3 ((IntKind.i64.wrap ((IntKind.i64.wrap (i86 + 1)) - (sep_n5 : Int))).toNat) 1) ((IntKind.i64.wrap (i86 + 1)).toNat - (IntKind.i64.wrap ((IntKind.i64.wrap (i86 + 1)) - (sep_n5 : Int))).toNat) (s_c3 - (IntKind.i64.wrap ((IntKind.i64.wrap (i86 + 1)) - (sep_n5 : Int))).toNat))).run Try.prog w87.drew = .ok (.string s115) w87.drew ∧ ∃ (s117 : ByteArray), (Conv.bytesToString (.slice sep_a4 sep_n5 sep_c6)).run Try.prog w87.drew = .ok (.string s117) w87.drew ∧ F42_j5 i86 sep_n5 h84 x94 r10 x98 (s115.toList == s117.toList) w87.drew k nx87
  else
    F42_j5 i86 sep_n5 h84 x94 r10 x98 false w87.drew k nx87
else
  k (.int .i64 (-1)) w87
def F42_b1 (sep_n5 : Nat) (s_a1 : Option Addr) (s_n2 : Nat) (r9 : Int) (s_c3 : Nat) (sep_a4 : Option Addr) (sep_c6 : Nat) (r10 : Int) (h17 : Int) (i19 : Int) (w20 : World) (nx20 : Int → Int → World → Prop) (k : Value → World → Prop) : Prop :=
  if i19 < (sep_n5 : Int) then
  ∃ (p25 : Addr), s_a1 = some p25 ∧ (0 : Int) ≤ i19 ∧ i19 < (s_n2 : Int) ∧ ∃ (x27 : Int), w20.cell? (p25.add i19.toNat) = some (.int .u8 x27) ∧ nx20 (IntKind.u32.wrap ((IntKind.u32.wrap (h17 * 16777619)) + (IntKind.u32.wrap x27))) (IntKind.i64.wrap (i19 + 1)) w20
else
  if h17 = r9 then
    (0 : Int) ≤ (sep_n5 : Int) ∧ (sep_n5 : Int) ≤ (s_c3 : Int) ∧ ∃ (s32 : ByteArray), (Conv.bytesToString (.slice s_a1 ((sep_n5 : Int).toNat) s_c3)).run Try.prog w20.drew = .ok (.string s32) w20.drew ∧ ∃ (s34 : ByteArray), (Conv.bytesToString (.slice sep_a4 sep_n5 sep_c6)).run Try.prog w20.drew = .ok (.string s34) w20.drew ∧ if (s32.toList == s34.toList) = true then
      k (.int .i64 0) w20.drew
    else
      LoopP (fun (s : Int × Int) w' nx' => F42_b2 s_n2 s_a1 sep_n5 r10 r9 s_c3 sep_a4 sep_c6 (s.1) (s.2) w' k (fun x0 x1 w => nx' (x0, x1) w)) (h17, (sep_n5 : Int)) w20.drew
  else
    LoopP (fun (s : Int × Int) w' nx' => F42_b4 s_n2 s_a1 sep_n5 r10 r9 s_c3 sep_a4 sep_c6 (s.1) (s.2) w' k (fun x0 x1 w => nx' (x0, x1) w)) (h17, (sep_n5 : Int)) w20.drew
/-- internal bytealg.IndexRabinKarp   byte  -/
def F42 (s_a1 : Option Addr) (s_n2 : Nat) (s_c3 : Nat) (sep_a4 : Option Addr) (sep_n5 : Nat) (sep_c6 : Nat) (w7 : World) (k : Value → World → Prop) : Prop :=
  Does Try.prog 44 #[.slice sep_a4 sep_n5 sep_c6] w7 (fun v w8 => ∃ (r9 r10 : Int), v = .tuple #[.int .u32 r9, .int .u32 r10] ∧ LoopP (fun (s : Int × Int) w' nx' => F42_b1 sep_n5 s_a1 s_n2 r9 s_c3 sep_a4 sep_c6 r10 (s.1) (s.2) w' (fun x0 x1 w => nx' (x0, x1) w) k) (0, 0) w8)
set_option maxRecDepth 100000 in
set_option maxHeartbeats 2000000 in
theorem w42 (s_a1 : Option Addr) (s_n2 : Nat) (s_c3 : Nat) (sep_a4 : Option Addr) (sep_n5 : Nat) (sep_c6 : Nat) (w7 : World) (k : Value → World → Prop) (h : F42 s_a1 s_n2 s_c3 sep_a4 sep_n5 sep_c6 w7 k) : Does Try.prog 42 #[.slice s_a1 s_n2 s_c3, .slice sep_a4 sep_n5 sep_c6] w7 k := by
  refine enter 88 Try.func42 rfl rfl rfl ?_
  intro ρ hρ
  have e0 := hρ 0 _ rfl
  have e1 := hρ 1 _ rfl
  unfold F42 at h
  refine WC_seq ?_
  refine WC_region ?_
  refine WL_val gd0 ((o_assign (v := .int .i64 0) rfl) _) rfl ?_
  refine WL_nil ?_
  refine nrm ?_
  refine WC_seq ?_
  refine WC_region ?_
  refine WL_val gd0 ((o_move (v := .slice sep_a4 sep_n5 sep_c6) (by exact e1)) _) rfl ?_
  refine WL_call gd0 (o_call Try.call44 (argCons rfl argNil) _) rfl (h.mono ?_)
  rintro _ w8 ⟨r9, r10, rfl, h⟩
  refine WL_val gd0 ((o_move (v := .tuple #[.int .u32 r9, .int .u32 r10]) rfl) _) rfl ?_
  refine WL_val gd0 ((o_extract (vs := [.int .u32 r9, .int .u32 r10]) (r := .int .u32 r9) rfl rfl) _) rfl ?_
  refine WL_val gd0 ((o_extract (vs := [.int .u32 r9, .int .u32 r10]) (r := .int .u32 r10) rfl rfl) _) rfl ?_
  refine WL_val gd0 ((o_assign (v := .int .u32 r9) rfl) _) rfl ?_
  refine WL_val gd0 ((o_assign (v := .int .u32 r10) rfl) _) rfl ?_
  refine WL_nil ?_
  refine nrm ?_
  refine WC_seq ?_
  refine WC_region ?_
  refine WL_val gd0 ((o_move (v := .slice sep_a4 sep_n5 sep_c6) (by exact e1)) _) rfl ?_
  refine WL_val gd0 ((o_len Try.underlying29 rfl) _) rfl ?_
  refine WL_val gd0 ((o_assign (v := .int .i64 (sep_n5 : Int)) rfl) _) rfl ?_
  refine WL_nil ?_
  refine nrm ?_
  refine WC_seq ?_
  refine WC_region ?_
  refine WL_val gd0 ((o_assign (v := .int .u32 0) rfl) _) rfl ?_
  refine WL_nil ?_
  refine nrm ?_
  refine WC_seq ?_
  refine WC_seq ?_
  refine WC_region ?_
  refine WL_val gd0 ((o_assign (v := .int .i64 0) rfl) _) rfl ?_
  refine WL_nil ?_
  refine nrm ?_
  refine WC_block ?_
  obtain ⟨J20, ⟨n20, h0⟩, hr20⟩ := h
  refine WC_loop (fun n ρ w' => ∃ (h17 i19 : Int), ρ 8 = .int .u32 h17 ∧ ρ 9 = .int .i64 i19 ∧ ρ 0 = .slice s_a1 s_n2 s_c3 ∧ ρ 1 = .slice sep_a4 sep_n5 sep_c6 ∧ ρ 5 = .int .u32 r9 ∧ ρ 6 = .int .u32 r10 ∧ ρ 7 = .int .i64 (sep_n5 : Int) ∧ J20 n (h17, i19) w') ⟨n20, _, _, rfl, rfl, e0, e1, rfl, rfl, rfl, h0⟩ ?_
  rintro n20 ρ w20 ⟨h17, i19, e8_16, e9_18, e0_11, e1_12, e5_13, e6_14, e7_15, h⟩
  have h : F42_b1 sep_n5 s_a1 s_n2 r9 s_c3 sep_a4 sep_c6 r10 h17 i19 w20 (fun x0 x1 w => ∃ m, m < n20 ∧ J20 m (x0, x1) w) k := hr20 n20 (h17, i19) w20 h
  unfold F42_b1 at h
  refine WC_seq ?_
  refine WC_seq ?_
  refine WC_region ?_
  refine WL_val gd0 ((o_move (v := .int .i64 i19) (by exact e9_18)) _) rfl ?_
  refine WL_val gd0 ((o_move (v := .int .i64 (sep_n5 : Int)) (by exact e7_15)) _) rfl ?_
  refine WL_val gd0 ((o_lss rfl rfl) _) rfl ?_
  refine WL_nil ?_
  refine nrm ?_
  refine WC_cond (t := (decide (i19 < (sep_n5 : Int)))) rfl (fun hb22 => ?_) (fun hb22 => ?_)
  · rw [if_pos (of_decide_eq_true hb22)] at h
    refine WC_skip ?_
    refine nrm ?_
    refine WC_seq ?_
    refine WC_block ?_
    refine WC_region ?_
    refine WL_val gd0 ((o_move (v := .int .u32 h17) (by exact e8_16)) _) rfl ?_
    refine WL_val gd0 ((o_mul rfl rfl) _) rfl ?_
    refine WL_val gd0 ((o_move (v := .slice s_a1 s_n2 s_c3) (by exact e0_11)) _) rfl ?_
    refine WL_val gd0 ((o_move (v := .int .i64 i19) (by exact e9_18)) _) rfl ?_
    obtain ⟨p25, q26, h⟩ := h
    obtain ⟨l23, u24, h⟩ := h
    refine WL_val gd0 ((o_indexAddr1 Try.underlying29 Try.sizeOf5 (by exact (congrArg (fun z => Value.slice z s_n2 s_c3) q26)) rfl l23 u24) _) rfl ?_
    obtain ⟨x27, hc28, h⟩ := h
    refine WL_val gd0 (o_load Try.isAgg5 rfl hc28) rfl ?_
    refine WL_val gd0 ((o_conv Try.underlying5 Try.underlying74 rfl) _) rfl ?_
    refine WL_val gd0 ((o_add rfl rfl) _) rfl ?_
    refine WL_val gd0 ((o_assign (v := .int .u32 (IntKind.u32.wrap ((IntKind.u32.wrap (h17 * 16777619)) + (IntKind.u32.wrap x27)))) rfl) _) rfl ?_
    refine WL_nil ?_
    refine nrmB ?_
    refine nrm ?_
    refine WC_region ?_
    refine WL_val gd0 ((o_move (v := .int .i64 i19) (by exact e9_18)) _) rfl ?_
    refine WL_val gd0 ((o_add rfl rfl) _) rfl ?_
    refine WL_val gd0 ((o_assign (v := .int .i64 (IntKind.i64.wrap (i19 + 1))) rfl) _) rfl ?_
    refine WL_nil ?_
    refine nrm ?_
    obtain ⟨m21, hm21, h⟩ := h
    exact ⟨m21, hm21, _, _, rfl, rfl, e0_11, e1_12, e5_13, e6_14, e7_15, h⟩
  · rw [if_neg (of_decide_eq_false hb22)] at h
    refine WC_exit ?_
    refine exT ?_
    refine exT ?_
    refine exB ?_
    refine nrm ?_
    refine WC_seq ?_
    refine WC_seq ?_
    refine WC_draws [] (.look 0 (.look 1 (.look 2 (.look 3 (.look 4 (.look 5 (.look 6 (.look 7 (.look 8 (.look 9 (.look 10 (.look 11 .nil)))))))))))) Try.mixed (by kernel_rfl) ?_
    refine WQ_val rfl gd0 (o_move (v := .int .u32 h17) (by exact e8_16)) rfl ?_
    refine WQ_val rfl gd0 (o_move (v := .int .u32 r9) (by exact e5_13)) rfl ?_
    refine WQ_val rfl gd0 (o_eql rfl rfl) rfl ?_
    refine WQ_val rfl gd0 (o_move (v := .bool (decide (h17 = r9))) rfl) rfl ?_
    refine bsplit (decide (h17 = r9)) (fun hb29 => ?_) (fun hb29 => ?_)
    · rw [if_pos (of_decide_eq_true hb29)] at h
      refine WQ_val rfl (gdY (b := (decide (h17 = r9))) 34 rfl rfl hb29) (o_move (v := .slice s_a1 s_n2 s_c3) (by exact e0_11)) rfl ?_
      refine WQ_val rfl (gdY (b := (decide (h17 = r9))) 34 rfl rfl hb29) (o_move (v := .int .i64 (sep_n5 : Int)) (by exact e7_15)) rfl ?_
      obtain ⟨c30, c31, h⟩ := h
      refine WQ_val rfl (gdY (b := (decide (h17 = r9))) 34 rfl rfl hb29) (o_sliceH Try.underlying29 Try.sizeOf5 rfl rfl c30 c31) rfl ?_
      obtain ⟨s32, r33, h⟩ := h
      refine WQ_look (fun w => (Conv.bytesToString (.slice s_a1 ((sep_n5 : Int).toNat) s_c3)).run Try.prog w = .ok (.string s32) w) rfl (gdY (b := (decide (h17 = r9))) 34 rfl rfl hb29) (fun w hc => (o_toStr Try.underlying29 Try.underlying5 Try.underlying9 rfl hc)) r33 rfl ?_
      refine WQ_val rfl (gdY (b := (decide (h17 = r9))) 34 rfl rfl hb29) (o_move (v := .slice sep_a4 sep_n5 sep_c6) (by exact e1_12)) rfl ?_
      obtain ⟨s34, r35, h⟩ := h
      refine WQ_look (fun w => (Conv.bytesToString (.slice sep_a4 sep_n5 sep_c6)).run Try.prog w = .ok (.string s34) w) rfl (gdY (b := (decide (h17 = r9))) 34 rfl rfl hb29) (fun w hc => (o_toStr Try.underlying29 Try.underlying5 Try.underlying9 rfl hc)) r35 rfl ?_
      refine WQ_val rfl (gdY (b := (decide (h17 = r9))) 34 rfl rfl hb29) (o_eqlStr rfl rfl) rfl ?_
      refine WQ_val rfl gd0 (o_pickT (v := .bool (s32.toList == s34.toList)) rfl hb29 rfl) rfl ?_
      refine WQ_nil ?_
      refine nrm ?_
      refine WC_cond (t := (s32.toList == s34.toList)) rfl (fun hb36 => ?_) (fun hb36 => ?_)
      · rw [if_pos hb36] at h
        refine WC_seq ?_
        refine WC_region ?_
        refine WL_val gd0 ((o_assign (v := .int .i64 0) rfl) _) rfl ?_
        refine WL_nil ?_
        refine nrm ?_
        refine WC_ret ?_
        refine rtT ?_
        refine rtE ?_
        exact gv1 rfl rfl h
      · rw [if_neg (neT hb36)] at h
        refine WC_skip ?_
        refine nrm ?_
        refine WC_seq ?_
        refine WC_seq ?_
        refine WC_region ?_
        refine WL_val gd0 ((o_move (v := .int .i64 (sep_n5 : Int)) (by exact e7_15)) _) rfl ?_
        refine WL_val gd0 ((o_assign (v := .int .i64 (sep_n5 : Int)) rfl) _) rfl ?_
        refine WL_nil ?_
        refine nrm ?_
        refine WC_block ?_
        obtain ⟨J46, ⟨n46, h0⟩, hr46⟩ := h
        refine WC_loop (fun n ρ w' => ∃ (h43 i45 : Int), ρ 8 = .int .u32 h43 ∧ ρ 10 = .int .i64 i45 ∧ ρ 0 = .slice s_a1 s_n2 s_c3 ∧ ρ 1 = .slice sep_a4 sep_n5 sep_c6 ∧ ρ 5 = .int .u32 r9 ∧ ρ 6 = .int .u32 r10 ∧ ρ 7 = .int .i64 (sep_n5 : Int) ∧ J46 n (h43, i45) w') ⟨n46, _, _, e8_16, rfl, e0_11, e1_12, e5_13, e6_14, e7_15, h0⟩ ?_
        rintro n46 ρ w46 ⟨h43, i45, e8_42, e10_44, e0_37, e1_38, e5_39, e6_40, e7_41, h⟩
        have h : F42_b2 s_n2 s_a1 sep_n5 r10 r9 s_c3 sep_a4 sep_c6 h43 i45 w46 k (fun x0 x1 w => ∃ m, m < n46 ∧ J46 m (x0, x1) w) := hr46 n46 (h43, i45) w46 h
        unfold F42_b2 at h
        refine WC_seq ?_
        refine WC_seq ?_
        refine WC_region ?_
        refine WL_val gd0 ((o_move (v := .int .i64 i45) (by exact e10_44)) _) rfl ?_
        refine WL_val gd0 ((o_move (v := .slice s_a1 s_n2 s_c3) (by exact e0_37)) _) rfl ?_
        refine WL_val gd0 ((o_len Try.underlying29 rfl) _) rfl ?_
        refine WL_val gd0 ((o_lss rfl rfl) _) rfl ?_
        refine WL_nil ?_
        refine nrm ?_
        refine WC_cond (t := (decide (i45 < (s_n2 : Int)))) rfl (fun hb48 => ?_) (fun hb48 => ?_)
        · rw [if_pos (of_decide_eq_true hb48)] at h
          refine WC_skip ?_
          refine nrm ?_
          refine WC_block ?_
          refine WC_seq ?_
          refine WC_region ?_
          refine WL_val gd0 ((o_move (v := .int .u32 h43) (by exact e8_42)) _) rfl ?_
          refine WL_val gd0 ((o_mul rfl rfl) _) rfl ?_
          refine WL_val gd0 ((o_assign (v := .int .u32 (IntKind.u32.wrap (h43 * 16777619))) rfl) _) rfl ?_
          refine WL_nil ?_
          refine nrm ?_
          refine WC_seq ?_
          refine WC_region ?_
          refine WL_val gd0 ((o_move (v := .int .u32 (IntKind.u32.wrap (h43 * 16777619))) rfl) _) rfl ?_
          refine WL_val gd0 ((o_move (v := .slice s_a1 s_n2 s_c3) (by exact e0_37)) _) rfl ?_
          refine WL_val gd0 ((o_move (v := .int .i64 i45) (by exact e10_44)) _) rfl ?_
          obtain ⟨p51, q52, h⟩ := h
          obtain ⟨l49, u50, h⟩ := h
          refine WL_val gd0 ((o_indexAddr1 Try.underlying29 Try.sizeOf5 (by exact (congrArg (fun z => Value.slice z s_n2 s_c3) q52)) rfl l49 u50) _) rfl ?_
          obtain ⟨x53, hc54, h⟩ := h
          refine WL_val gd0 (o_load Try.isAgg5 rfl hc54) rfl ?_
          refine WL_val gd0 ((o_conv Try.underlying5 Try.underlying74 rfl) _) rfl ?_
          refine WL_val gd0 ((o_add rfl rfl) _) rfl ?_
          refine WL_val gd0 ((o_assign (v := .int .u32 (IntKind.u32.wrap ((IntKind.u32.wrap (h43 * 16777619)) + (IntKind.u32.wrap x53)))) rfl) _) rfl ?_
          refine WL_nil ?_
          refine nrm ?_
          refine WC_seq ?_
          refine WC_region ?_
          refine WL_val gd0 ((o_move (v := .int .u32 (IntKind.u32.wrap ((IntKind.u32.wrap (h43 * 16777619)) + (IntKind.u32.wrap x53)))) rfl) _) rfl ?_
          refine WL_val gd0 ((o_move (v := .int .u32 r10) (by exact e6_40)) _) rfl ?_
          refine WL_val gd0 ((o_move (v := .slice s_a1 s_n2 s_c3) (by exact e0_37)) _) rfl ?_
          refine WL_val gd0 ((o_move (v := .int .i64 i45) (by exact e10_44)) _) rfl ?_
          refine WL_val gd0 ((o_move (v := .int .i64 (sep_n5 : Int)) (by exact e7_41)) _) rfl ?_
          refine WL_val gd0 ((o_sub rfl rfl) _) rfl ?_
          obtain ⟨l55, u56, h⟩ := h
          refine WL_val gd0 ((o_indexAddr1 Try.underlying29 Try.sizeOf5 (by exact (congrArg (fun z => Value.slice z s_n2 s_c3) q52)) rfl l55 u56) _) rfl ?_
          obtain ⟨x57, hc58, h⟩ := h
          refine WL_val gd0 (o_load Try.isAgg5 rfl hc58) rfl ?_
          refine WL_val gd0 ((o_conv Try.underlying5 Try.underlying74 rfl) _) rfl ?_
          refine WL_val gd0 ((o_mul rfl rfl) _) rfl ?_
          refine WL_val gd0 ((o_sub rfl rfl) _) rfl ?_
          refine WL_val gd0 ((o_assign (v := .int .u32 (IntKind.u32.wrap ((IntKind.u32.wrap ((IntKind.u32.wrap (h43 * 16777619)) + (IntKind.u32.wrap x53))) - (IntKind.u32.wrap (r10 * (IntKind.u32.wrap x57)))))) rfl) _) rfl ?_
          refine WL_nil ?_
          refine nrm ?_
          refine WC_seq ?_
          refine WC_region ?_
          refine WL_val gd0 ((o_move (v := .int .i64 i45) (by exact e10_44)) _) rfl ?_
          refine WL_val gd0 ((o_add rfl rfl) _) rfl ?_
          refine WL_val gd0 ((o_assign (v := .int .i64 (IntKind.i64.wrap (i45 + 1))) rfl) _) rfl ?_
          refine WL_nil ?_
          refine nrm ?_
          refine WC_cut (fun ρ w' => ∃ (t67 : Bool), ρ 84 = .bool t67 ∧ ρ 0 = .slice s_a1 s_n2 s_c3 ∧ ρ 1 = .slice sep_a4 sep_n5 sep_c6 ∧ ρ 5 = .int .u32 r9 ∧ ρ 6 = .int .u32 r10 ∧ ρ 7 = .int .i64 (sep_n5 : Int) ∧ ρ 8 = .int .u32 (IntKind.u32.wrap ((IntKind.u32.wrap ((IntKind.u32.wrap (h43 * 16777619)) + (IntKind.u32.wrap x53))) - (IntKind.u32.wrap (r10 * (IntKind.u32.wrap x57))))) ∧ ρ 10 = .int .i64 (IntKind.i64.wrap (i45 + 1)) ∧ F42_j3 i45 sep_n5 h43 x53 r10 x57 t67 w' k (fun x0 x1 w => ∃ m, m < n46 ∧ J46 m (x0, x1) w)) ?_ ?_
          · refine WC_draws [] (.look 0 (.look 1 (.look 2 (.look 3 (.look 4 (.look 5 (.look 6 (.look 7 (.look 8 (.look 9 (.look 10 (.look 11 (.look 12 (.look 13 (.look 14 .nil))))))))))))))) Try.mixed (by kernel_rfl) ?_
            refine WQ_val rfl gd0 (o_move (v := .int .u32 (IntKind.u32.wrap ((IntKind.u32.wrap ((IntKind.u32.wrap (h43 * 16777619)) + (IntKind.u32.wrap x53))) - (IntKind.u32.wrap (r10 * (IntKind.u32.wrap x57)))))) rfl) rfl ?_
            refine WQ_val rfl gd0 (o_move (v := .int .u32 r9) (by exact e5_39)) rfl ?_
            refine WQ_val rfl gd0 (o_eql rfl rfl) rfl ?_
            refine WQ_val rfl gd0 (o_move (v := .bool (decide ((IntKind.u32.wrap ((IntKind.u32.wrap ((IntKind.u32.wrap (h43 * 16777619)) + (IntKind.u32.wrap x53))) - (IntKind.u32.wrap (r10 * (IntKind.u32.wrap x57))))) = r9))) rfl) rfl ?_
            refine bsplit (decide ((IntKind.u32.wrap ((IntKind.u32.wrap ((IntKind.u32.wrap (h43 * 16777619)) + (IntKind.u32.wrap x53))) - (IntKind.u32.wrap (r10 * (IntKind.u32.wrap x57))))) = r9)) (fun hb70 => ?_) (fun hb70 => ?_)
            · rw [if_pos (of_decide_eq_true hb70)] at h
              refine WQ_val rfl (gdY (b := (decide ((IntKind.u32.wrap ((IntKind.u32.wrap ((IntKind.u32.wrap (h43 * 16777619)) + (IntKind.u32.wrap x53))) - (IntKind.u32.wrap (r10 * (IntKind.u32.wrap x57))))) = r9))) 73 rfl rfl hb70) (o_move (v := .slice s_a1 s_n2 s_c3) (by exact e0_37)) rfl ?_
              refine WQ_val rfl (gdY (b := (decide ((IntKind.u32.wrap ((IntKind.u32.wrap ((IntKind.u32.wrap (h43 * 16777619)) + (IntKind.u32.wrap x53))) - (IntKind.u32.wrap (r10 * (IntKind.u32.wrap x57))))) = r9))) 73 rfl rfl hb70) (o_move (v := .int .i64 (IntKind.i64.wrap (i45 + 1))) rfl) rfl ?_
              refine WQ_val rfl (gdY (b := (decide ((IntKind.u32.wrap ((IntKind.u32.wrap ((IntKind.u32.wrap (h43 * 16777619)) + (IntKind.u32.wrap x53))) - (IntKind.u32.wrap (r10 * (IntKind.u32.wrap x57))))) = r9))) 73 rfl rfl hb70) (o_move (v := .int .i64 (sep_n5 : Int)) (by exact e7_41)) rfl ?_
              refine WQ_val rfl (gdY (b := (decide ((IntKind.u32.wrap ((IntKind.u32.wrap ((IntKind.u32.wrap (h43 * 16777619)) + (IntKind.u32.wrap x53))) - (IntKind.u32.wrap (r10 * (IntKind.u32.wrap x57))))) = r9))) 73 rfl rfl hb70) (o_sub rfl rfl) rfl ?_
              refine WQ_val rfl (gdY (b := (decide ((IntKind.u32.wrap ((IntKind.u32.wrap ((IntKind.u32.wrap (h43 * 16777619)) + (IntKind.u32.wrap x53))) - (IntKind.u32.wrap (r10 * (IntKind.u32.wrap x57))))) = r9))) 73 rfl rfl hb70) (o_move (v := .int .i64 (IntKind.i64.wrap (i45 + 1))) rfl) rfl ?_
              obtain ⟨c71, c72, c73, h⟩ := h
              refine WQ_val rfl (gdY (b := (decide ((IntKind.u32.wrap ((IntKind.u32.wrap ((IntKind.u32.wrap (h43 * 16777619)) + (IntKind.u32.wrap x53))) - (IntKind.u32.wrap (r10 * (IntKind.u32.wrap x57))))) = r9))) 73 rfl rfl hb70) (o_sliceLH Try.underlying29 Try.sizeOf5 rfl rfl rfl c71 c72 c73) rfl ?_
              obtain ⟨s74, r75, h⟩ := h
              refine WQ_look (fun w => (Conv.bytesToString (.slice (cutA s_a1 s_c3 ((IntKind.i64.wrap ((IntKind.i64.wrap (i45 + 1)) - (sep_n5 : Int))).toNat) 1) ((IntKind.i64.wrap (i45 + 1)).toNat - (IntKind.i64.wrap ((IntKind.i64.wrap (i45 + 1)) - (sep_n5 : Int))).toNat) (s_c3 - (IntKind.i64.wrap ((IntKind.i64.wrap (i45 + 1)) - (sep_n5 : Int))).toNat))).run Try.prog w = .ok (.string s74) w) rfl (gdY (b := (decide ((IntKind.u32.wrap ((IntKind.u32.wrap ((IntKind.u32.wrap (h43 * 16777619)) + (IntKind.u32.wrap x53))) - (IntKind.u32.wrap (r10 * (IntKind.u32.wrap x57))))) = r9))) 73 rfl rfl hb70) (fun w hc => (o_toStr Try.underlying29 Try.underlying5 Try.underlying9 rfl hc)) r75 rfl ?_
              refine WQ_val rfl (gdY (b := (decide ((IntKind.u32.wrap ((IntKind.u32.wrap ((IntKind.u32.wrap (h43 * 16777619)) + (IntKind.u32.wrap x53))) - (IntKind.u32.wrap (r10 * (IntKind.u32.wrap x57))))) = r9))) 73 rfl rfl hb70) (o_move (v := .slice sep_a4 sep_n5 sep_c6) (by exact e1_38)) rfl ?_
              obtain ⟨s76, r77, h⟩ := h
              refine WQ_look (fun w => (Conv.bytesToString (.slice sep_a4 sep_n5 sep_c6)).run Try.prog w = .ok (.string s76) w) rfl (gdY (b := (decide ((IntKind.u32.wrap ((IntKind.u32.wrap ((IntKind.u32.wrap (h43 * 16777619)) + (IntKind.u32.wrap x53))) - (IntKind.u32.wrap (r10 * (IntKind.u32.wrap x57))))) = r9))) 73 rfl rfl hb70) (fun w hc => (o_toStr Try.underlying29 Try.underlying5 Try.underlying9 rfl hc)) r77 rfl ?_
              refine WQ_val rfl (gdY (b := (decide ((IntKind.u32.wrap ((IntKind.u32.wrap ((IntKind.u32.wrap (h43 * 16777619)) + (IntKind.u32.wrap x53))) - (IntKind.u32.wrap (r10 * (IntKind.u32.wrap x57))))) = r9))) 73 rfl rfl hb70) (o_eqlStr rfl rfl) rfl ?_
              refine WQ_val rfl gd0 (o_pickT (v := .bool (s74.toList == s76.toList)) rfl hb70 rfl) rfl ?_
              refine WQ_nil ?_
              refine nrm ?_
              exact ⟨_, rfl, e0_37, e1_38, e5_39, e6_40, e7_41, rfl, rfl, h⟩
            · rw [if_neg (of_decide_eq_false hb70)] at h
              refine WQ_skip rfl (gdN (b := (decide ((IntKind.u32.wrap ((IntKind.u32.wrap ((IntKind.u32.wrap (h43 * 16777619)) + (IntKind.u32.wrap x53))) - (IntKind.u32.wrap (r10 * (IntKind.u32.wrap x57))))) = r9))) 73 rfl rfl hb70) rfl ?_
              refine WQ_skip rfl (gdN (b := (decide ((IntKind.u32.wrap ((IntKind.u32.wrap ((IntKind.u32.wrap (h43 * 16777619)) + (IntKind.u32.wrap x53))) - (IntKind.u32.wrap (r10 * (IntKind.u32.wrap x57))))) = r9))) 73 rfl rfl hb70) rfl ?_
              refine WQ_skip rfl (gdN (b := (decide ((IntKind.u32.wrap ((IntKind.u32.wrap ((IntKind.u32.wrap (h43 * 16777619)) + (IntKind.u32.wrap x53))) - (IntKind.u32.wrap (r10 * (IntKind.u32.wrap x57))))) = r9))) 73 rfl rfl hb70) rfl ?_
              refine WQ_skip rfl (gdN (b := (decide ((IntKind.u32.wrap ((IntKind.u32.wrap ((IntKind.u32.wrap (h43 * 16777619)) + (IntKind.u32.wrap x53))) - (IntKind.u32.wrap (r10 * (IntKind.u32.wrap x57))))) = r9))) 73 rfl rfl hb70) rfl ?_
              refine WQ_skip rfl (gdN (b := (decide ((IntKind.u32.wrap ((IntKind.u32.wrap ((IntKind.u32.wrap (h43 * 16777619)) + (IntKind.u32.wrap x53))) - (IntKind.u32.wrap (r10 * (IntKind.u32.wrap x57))))) = r9))) 73 rfl rfl hb70) rfl ?_
              refine WQ_skip rfl (gdN (b := (decide ((IntKind.u32.wrap ((IntKind.u32.wrap ((IntKind.u32.wrap (h43 * 16777619)) + (IntKind.u32.wrap x53))) - (IntKind.u32.wrap (r10 * (IntKind.u32.wrap x57))))) = r9))) 73 rfl rfl hb70) rfl ?_
              refine WQ_skip rfl (gdN (b := (decide ((IntKind.u32.wrap ((IntKind.u32.wrap ((IntKind.u32.wrap (h43 * 16777619)) + (IntKind.u32.wrap x53))) - (IntKind.u32.wrap (r10 * (IntKind.u32.wrap x57))))) = r9))) 73 rfl rfl hb70) rfl ?_
              refine WQ_skip rfl (gdN (b := (decide ((IntKind.u32.wrap ((IntKind.u32.wrap ((IntKind.u32.wrap (h43 * 16777619)) + (IntKind.u32.wrap x53))) - (IntKind.u32.wrap (r10 * (IntKind.u32.wrap x57))))) = r9))) 73 rfl rfl hb70) rfl ?_
              refine WQ_skip rfl (gdN (b := (decide ((IntKind.u32.wrap ((IntKind.u32.wrap ((IntKind.u32.wrap (h43 * 16777619)) + (IntKind.u32.wrap x53))) - (IntKind.u32.wrap (r10 * (IntKind.u32.wrap x57))))) = r9))) 73 rfl rfl hb70) rfl ?_
              refine WQ_skip rfl (gdN (b := (decide ((IntKind.u32.wrap ((IntKind.u32.wrap ((IntKind.u32.wrap (h43 * 16777619)) + (IntKind.u32.wrap x53))) - (IntKind.u32.wrap (r10 * (IntKind.u32.wrap x57))))) = r9))) 73 rfl rfl hb70) rfl ?_
              refine WQ_val rfl gd0 (o_pickF (v := .bool false) rfl hb70 rfl) rfl ?_
              refine WQ_nil ?_
              refine nrm ?_
              exact ⟨_, rfl, e0_37, e1_38, e5_39, e6_40, e7_41, rfl, rfl, h⟩
          · rintro ρ w68 ⟨t67, e84_66, e0_59, e1_60, e5_61, e6_62, e7_63, e8_64, e10_65, h⟩
            unfold F42_j3 at h
            refine WC_cond (t := t67) (by exact e84_66) (fun hb69 => ?_) (fun hb69 => ?_)
            · rw [if_pos hb69] at h
              refine WC_seq ?_
              refine WC_region ?_
              refine WL_val gd0 ((o_move (v := .int .i64 (IntKind.i64.wrap (i45 + 1))) (by exact e10_65)) _) rfl ?_
              refine WL_val gd0 ((o_move (v := .int .i64 (sep_n5 : Int)) (by exact e7_63)) _) rfl ?_
              refine WL_val gd0 ((o_sub rfl rfl) _) rfl ?_
              refine WL_val gd0 ((o_assign (v := .int .i64 (IntKind.i64.wrap ((IntKind.i64.wrap (i45 + 1)) - (sep_n5 : Int)))) rfl) _) rfl ?_
              refine WL_nil ?_
              refine nrm ?_
              refine WC_ret ?_
              refine rtB ?_
              refine rtT ?_
              refine rtB ?_
              refine rtT ?_
              refine rtE ?_
              exact gv1 rfl rfl h
            · rw [if_neg (neT hb69)] at h
              refine WC_skip ?_
              refine nrmB ?_
              refine nrm ?_
              obtain ⟨m47, hm47, h⟩ := h
              exact ⟨m47, hm47, _, _, e8_64, e10_65, e0_59, e1_60, e5_61, e6_62, e7_63, h⟩
        · rw [if_neg (of_decide_eq_false hb48)] at h
          refine WC_exit ?_
          refine exT ?_
          refine exT ?_
          refine exB ?_
          refine nrm ?_
          refine WC_seq ?_
          refine WC_region ?_
          refine WL_val gd0 ((o_assign (v := .int .i64 (-1)) rfl) _) rfl ?_
          refine WL_nil ?_
          refine nrm ?_
          refine WC_ret ?_
          refine rtE ?_
          exact gv1 rfl rfl h
    · rw [if_neg (of_decide_eq_false hb29)] at h
      refine WQ_skip rfl (gdN (b := (decide (h17 = r9))) 34 rfl rfl hb29) rfl ?_
      refine WQ_skip rfl (gdN (b := (decide (h17 = r9))) 34 rfl rfl hb29) rfl ?_
      refine WQ_skip rfl (gdN (b := (decide (h17 = r9))) 34 rfl rfl hb29) rfl ?_
      refine WQ_skip rfl (gdN (b := (decide (h17 = r9))) 34 rfl rfl hb29) rfl ?_
      refine WQ_skip rfl (gdN (b := (decide (h17 = r9))) 34 rfl rfl hb29) rfl ?_
      refine WQ_skip rfl (gdN (b := (decide (h17 = r9))) 34 rfl rfl hb29) rfl ?_
      refine WQ_skip rfl (gdN (b := (decide (h17 = r9))) 34 rfl rfl hb29) rfl ?_
      refine WQ_val rfl gd0 (o_pickF (v := .bool false) rfl hb29 rfl) rfl ?_
      refine WQ_nil ?_
      refine nrm ?_
      refine WC_cond (t := false) rfl (fun hx => by rw [(rfl : false = false)] at hx; cases hx) (fun _ => ?_)
      refine WC_skip ?_
      refine nrm ?_
      refine WC_seq ?_
      refine WC_seq ?_
      refine WC_region ?_
      refine WL_val gd0 ((o_move (v := .int .i64 (sep_n5 : Int)) (by exact e7_15)) _) rfl ?_
      refine WL_val gd0 ((o_assign (v := .int .i64 (sep_n5 : Int)) rfl) _) rfl ?_
      refine WL_nil ?_
      refine nrm ?_
      refine WC_block ?_
      obtain ⟨J87, ⟨n87, h0⟩, hr87⟩ := h
      refine WC_loop (fun n ρ w' => ∃ (h84 i86 : Int), ρ 8 = .int .u32 h84 ∧ ρ 10 = .int .i64 i86 ∧ ρ 0 = .slice s_a1 s_n2 s_c3 ∧ ρ 1 = .slice sep_a4 sep_n5 sep_c6 ∧ ρ 5 = .int .u32 r9 ∧ ρ 6 = .int .u32 r10 ∧ ρ 7 = .int .i64 (sep_n5 : Int) ∧ J87 n (h84, i86) w') ⟨n87, _, _, e8_16, rfl, e0_11, e1_12, e5_13, e6_14, e7_15, h0⟩ ?_
      rintro n87 ρ w87 ⟨h84, i86, e8_83, e10_85, e0_78, e1_79, e5_80, e6_81, e7_82, h⟩
      have h : F42_b4 s_n2 s_a1 sep_n5 r10 r9 s_c3 sep_a4 sep_c6 h84 i86 w87 k (fun x0 x1 w => ∃ m, m < n87 ∧ J87 m (x0, x1) w) := hr87 n87 (h84, i86) w87 h
      unfold F42_b4 at h
      refine WC_seq ?_
      refine WC_seq ?_
      refine WC_region ?_
      refine WL_val gd0 ((o_move (v := .int .i64 i86) (by exact e10_85)) _) rfl ?_
      refine WL_val gd0 ((o_move (v := .slice s_a1 s_n2 s_c3) (by exact e0_78)) _) rfl ?_
      refine WL_val gd0 ((o_len Try.underlying29 rfl) _) rfl ?_
      refine WL_val gd0 ((o_lss rfl rfl) _) rfl ?_
      refine WL_nil ?_
      refine nrm ?_
      refine WC_cond (t := (decide (i86 < (s_n2 : Int)))) rfl (fun hb89 => ?_) (fun hb89 => ?_)
      · rw [if_pos (of_decide_eq_true hb89)] at h
        refine WC_skip ?_
        refine nrm ?_
        refine WC_block ?_
        refine WC_seq ?_
        refine WC_region ?_
        refine WL_val gd0 ((o_move (v := .int .u32 h84) (by exact e8_83)) _) rfl ?_
        refine WL_val gd0 ((o_mul rfl rfl) _) rfl ?_
        refine WL_val gd0 ((o_assign (v := .int .u32 (IntKind.u32.wrap (h84 * 16777619))) rfl) _) rfl ?_
        refine WL_nil ?_
        refine nrm ?_
        refine WC_seq ?_
        refine WC_region ?_
        refine WL_val gd0 ((o_move (v := .int .u32 (IntKind.u32.wrap (h84 * 16777619))) rfl) _) rfl ?_
        refine WL_val gd0 ((o_move (v := .slice s_a1 s_n2 s_c3) (by exact e0_78)) _) rfl ?_
        refine WL_val gd0 ((o_move (v := .int .i64 i86) (by exact e10_85)) _) rfl ?_
        obtain ⟨p92, q93, h⟩ := h
        obtain ⟨l90, u91, h⟩ := h
        refine WL_val gd0 ((o_indexAddr1 Try.underlying29 Try.sizeOf5 (by exact (congrArg (fun z => Value.slice z s_n2 s_c3) q93)) rfl l90 u91) _) rfl ?_
        obtain ⟨x94, hc95, h⟩ := h
        refine WL_val gd0 (o_load Try.isAgg5 rfl hc95) rfl ?_
        refine WL_val gd0 ((o_conv Try.underlying5 Try.underlying74 rfl) _) rfl ?_
        refine WL_val gd0 ((o_add rfl rfl) _) rfl ?_
        refine WL_val gd0 ((o_assign (v := .int .u32 (IntKind.u32.wrap ((IntKind.u32.wrap (h84 * 16777619)) + (IntKind.u32.wrap x94)))) rfl) _) rfl ?_
        refine WL_nil ?_
        refine nrm ?_
        refine WC_seq ?_
        refine WC_region ?_
        refine WL_val gd0 ((o_move (v := .int .u32 (IntKind.u32.wrap ((IntKind.u32.wrap (h84 * 16777619)) + (IntKind.u32.wrap x94)))) rfl) _) rfl ?_
        refine WL_val gd0 ((o_move (v := .int .u32 r10) (by exact e6_81)) _) rfl ?_
        refine WL_val gd0 ((o_move (v := .slice s_a1 s_n2 s_c3) (by exact e0_78)) _) rfl ?_
        refine WL_val gd0 ((o_move (v := .int .i64 i86) (by exact e10_85)) _) rfl ?_
        refine WL_val gd0 ((o_move (v := .int .i64 (sep_n5 : Int)) (by exact e7_82)) _) rfl ?_
        refine WL_val gd0 ((o_sub rfl rfl) _) rfl ?_
        obtain ⟨l96, u97, h⟩ := h
        refine WL_val gd0 ((o_indexAddr1 Try.underlying29 Try.sizeOf5 (by exact (congrArg (fun z => Value.slice z s_n2 s_c3) q93)) rfl l96 u97) _) rfl ?_
        obtain ⟨x98, hc99, h⟩ := h
        refine WL_val gd0 (o_load Try.isAgg5 rfl hc99) rfl ?_
        refine WL_val gd0 ((o_conv Try.underlying5 Try.underlying74 rfl) _) rfl ?_
        refine WL_val gd0 ((o_mul rfl rfl) _) rfl ?_
        refine WL_val gd0 ((o_sub rfl rfl) _) rfl ?_
        refine WL_val gd0 ((o_assign (v := .int .u32 (IntKind.u32.wrap ((IntKind.u32.wrap ((IntKind.u32.wrap (h84 * 16777619)) + (IntKind.u32.wrap x94))) - (IntKind.u32.wrap (r10 * (IntKind.u32.wrap x98)))))) rfl) _) rfl ?_
        refine WL_nil ?_
        refine nrm ?_
        refine WC_seq ?_
        refine WC_region ?_
        refine WL_val gd0 ((o_move (v := .int .i64 i86) (by exact e10_85)) _) rfl ?_
        refine WL_val gd0 ((o_add rfl rfl) _) rfl ?_
        refine WL_val gd0 ((o_assign (v := .int .i64 (IntKind.i64.wrap (i86 + 1))) rfl) _) rfl ?_
        refine WL_nil ?_
        refine nrm ?_
        refine WC_cut (fun ρ w' => ∃ (t108 : Bool), ρ 84 = .bool t108 ∧ ρ 0 = .slice s_a1 s_n2 s_c3 ∧ ρ 1 = .slice sep_a4 sep_n5 sep_c6 ∧ ρ 5 = .int .u32 r9 ∧ ρ 6 = .int .u32 r10 ∧ ρ 7 = .int .i64 (sep_n5 : Int) ∧ ρ 8 = .int .u32 (IntKind.u32.wrap ((IntKind.u32.wrap ((IntKind.u32.wrap (h84 * 16777619)) + (IntKind.u32.wrap x94))) - (IntKind.u32.wrap (r10 * (IntKind.u32.wrap x98))))) ∧ ρ 10 = .int .i64 (IntKind.i64.wrap (i86 + 1)) ∧ F42_j5 i86 sep_n5 h84 x94 r10 x98 t108 w' k (fun x0 x1 w => ∃ m, m < n87 ∧ J87 m (x0, x1) w)) ?_ ?_
        · refine WC_draws [] (.look 0 (.look 1 (.look 2 (.look 3 (.look 4 (.look 5 (.look 6 (.look 7 (.look 8 (.look 9 (.look 10 (.look 11 (.look 12 (.look 13 (.look 14 .nil))))))))))))))) Try.mixed (by kernel_rfl) ?_
          refine WQ_val rfl gd0 (o_move (v := .int .u32 (IntKind.u32.wrap ((IntKind.u32.wrap ((IntKind.u32.wrap (h84 * 16777619)) + (IntKind.u32.wrap x94))) - (IntKind.u32.wrap (r10 * (IntKind.u32.wrap x98)))))) rfl) rfl ?_
          refine WQ_val rfl gd0 (o_move (v := .int .u32 r9) (by exact e5_80)) rfl ?_
          refine WQ_val rfl gd0 (o_eql rfl rfl) rfl ?_
          refine WQ_val rfl gd0 (o_move (v := .bool (decide ((IntKind.u32.wrap ((IntKind.u32.wrap ((IntKind.u32.wrap (h84 * 16777619)) + (IntKind.u32.wrap x94))) - (IntKind.u32.wrap (r10 * (IntKind.u32.wrap x98))))) = r9))) rfl) rfl ?_
          refine bsplit (decide ((IntKind.u32.wrap ((IntKind.u32.wrap ((IntKind.u32.wrap (h84 * 16777619)) + (IntKind.u32.wrap x94))) - (IntKind.u32.wrap (r10 * (IntKind.u32.wrap x98))))) = r9)) (fun hb111 => ?_) (fun hb111 => ?_)
          · rw [if_pos (of_decide_eq_true hb111)] at h
            refine WQ_val rfl (gdY (b := (decide ((IntKind.u32.wrap ((IntKind.u32.wrap ((IntKind.u32.wrap (h84 * 16777619)) + (IntKind.u32.wrap x94))) - (IntKind.u32.wrap (r10 * (IntKind.u32.wrap x98))))) = r9))) 73 rfl rfl hb111) (o_move (v := .slice s_a1 s_n2 s_c3) (by exact e0_78)) rfl ?_
            refine WQ_val rfl (gdY (b := (decide ((IntKind.u32.wrap ((IntKind.u32.wrap ((IntKind.u32.wrap (h84 * 16777619)) + (IntKind.u32.wrap x94))) - (IntKind.u32.wrap (r10 * (IntKind.u32.wrap x98))))) = r9))) 73 rfl rfl hb111) (o_move (v := .int .i64 (IntKind.i64.wrap (i86 + 1))) rfl) rfl ?_
            refine WQ_val rfl (gdY (b := (decide ((IntKind.u32.wrap ((IntKind.u32.wrap ((IntKind.u32.wrap (h84 * 16777619)) + (IntKind.u32.wrap x94))) - (IntKind.u32.wrap (r10 * (IntKind.u32.wrap x98))))) = r9))) 73 rfl rfl hb111) (o_move (v := .int .i64 (sep_n5 : Int)) (by exact e7_82)) rfl ?_
            refine WQ_val rfl (gdY (b := (decide ((IntKind.u32.wrap ((IntKind.u32.wrap ((IntKind.u32.wrap (h84 * 16777619)) + (IntKind.u32.wrap x94))) - (IntKind.u32.wrap (r10 * (IntKind.u32.wrap x98))))) = r9))) 73 rfl rfl hb111) (o_sub rfl rfl) rfl ?_
            refine WQ_val rfl (gdY (b := (decide ((IntKind.u32.wrap ((IntKind.u32.wrap ((IntKind.u32.wrap (h84 * 16777619)) + (IntKind.u32.wrap x94))) - (IntKind.u32.wrap (r10 * (IntKind.u32.wrap x98))))) = r9))) 73 rfl rfl hb111) (o_move (v := .int .i64 (IntKind.i64.wrap (i86 + 1))) rfl) rfl ?_
            obtain ⟨c112, c113, c114, h⟩ := h
            refine WQ_val rfl (gdY (b := (decide ((IntKind.u32.wrap ((IntKind.u32.wrap ((IntKind.u32.wrap (h84 * 16777619)) + (IntKind.u32.wrap x94))) - (IntKind.u32.wrap (r10 * (IntKind.u32.wrap x98))))) = r9))) 73 rfl rfl hb111) (o_sliceLH Try.underlying29 Try.sizeOf5 rfl rfl rfl c112 c113 c114) rfl ?_
            obtain ⟨s115, r116, h⟩ := h
            refine WQ_look (fun w => (Conv.bytesToString (.slice (cutA s_a1 s_c3 ((IntKind.i64.wrap ((IntKind.i64.wrap (i86 + 1)) - (sep_n5 : Int))).toNat) 1) ((IntKind.i64.wrap (i86 + 1)).toNat - (IntKind.i64.wrap ((IntKind.i64.wrap (i86 + 1)) - (sep_n5 : Int))).toNat) (s_c3 - (IntKind.i64.wrap ((IntKind.i64.wrap (i86 + 1)) - (sep_n5 : Int))).toNat))).run Try.prog w = .ok (.string s115) w) rfl (gdY (b := (decide ((IntKind.u32.wrap ((IntKind.u32.wrap ((IntKind.u32.wrap (h84 * 16777619)) + (IntKind.u32.wrap x94))) - (IntKind.u32.wrap (r10 * (IntKind.u32.wrap x98))))) = r9))) 73 rfl rfl hb111) (fun w hc => (o_toStr Try.underlying29 Try.underlying5 Try.underlying9 rfl hc)) r116 rfl ?_
            refine WQ_val rfl (gdY (b := (decide ((IntKind.u32.wrap ((IntKind.u32.wrap ((IntKind.u32.wrap (h84 * 16777619)) + (IntKind.u32.wrap x94))) - (IntKind.u32.wrap (r10 * (IntKind.u32.wrap x98))))) = r9))) 73 rfl rfl hb111) (o_move (v := .slice sep_a4 sep_n5 sep_c6) (by exact e1_79)) rfl ?_
            obtain ⟨s117, r118, h⟩ := h
            refine WQ_look (fun w => (Conv.bytesToString (.slice sep_a4 sep_n5 sep_c6)).run Try.prog w = .ok (.string s117) w) rfl (gdY (b := (decide ((IntKind.u32.wrap ((IntKind.u32.wrap ((IntKind.u32.wrap (h84 * 16777619)) + (IntKind.u32.wrap x94))) - (IntKind.u32.wrap (r10 * (IntKind.u32.wrap x98))))) = r9))) 73 rfl rfl hb111) (fun w hc => (o_toStr Try.underlying29 Try.underlying5 Try.underlying9 rfl hc)) r118 rfl ?_
            refine WQ_val rfl (gdY (b := (decide ((IntKind.u32.wrap ((IntKind.u32.wrap ((IntKind.u32.wrap (h84 * 16777619)) + (IntKind.u32.wrap x94))) - (IntKind.u32.wrap (r10 * (IntKind.u32.wrap x98))))) = r9))) 73 rfl rfl hb111) (o_eqlStr rfl rfl) rfl ?_
            refine WQ_val rfl gd0 (o_pickT (v := .bool (s115.toList == s117.toList)) rfl hb111 rfl) rfl ?_
            refine WQ_nil ?_
            refine nrm ?_
            exact ⟨_, rfl, e0_78, e1_79, e5_80, e6_81, e7_82, rfl, rfl, h⟩
          · rw [if_neg (of_decide_eq_false hb111)] at h
            refine WQ_skip rfl (gdN (b := (decide ((IntKind.u32.wrap ((IntKind.u32.wrap ((IntKind.u32.wrap (h84 * 16777619)) + (IntKind.u32.wrap x94))) - (IntKind.u32.wrap (r10 * (IntKind.u32.wrap x98))))) = r9))) 73 rfl rfl hb111) rfl ?_
            refine WQ_skip rfl (gdN (b := (decide ((IntKind.u32.wrap ((IntKind.u32.wrap ((IntKind.u32.wrap (h84 * 16777619)) + (IntKind.u32.wrap x94))) - (IntKind.u32.wrap (r10 * (IntKind.u32.wrap x98))))) = r9))) 73 rfl rfl hb111) rfl ?_
            refine WQ_skip rfl (gdN (b := (decide ((IntKind.u32.wrap ((IntKind.u32.wrap ((IntKind.u32.wrap (h84 * 16777619)) + (IntKind.u32.wrap x94))) - (IntKind.u32.wrap (r10 * (IntKind.u32.wrap x98))))) = r9))) 73 rfl rfl hb111) rfl ?_
            refine WQ_skip rfl (gdN (b := (decide ((IntKind.u32.wrap ((IntKind.u32.wrap ((IntKind.u32.wrap (h84 * 16777619)) + (IntKind.u32.wrap x94))) - (IntKind.u32.wrap (r10 * (IntKind.u32.wrap x98))))) = r9))) 73 rfl rfl hb111) rfl ?_
            refine WQ_skip rfl (gdN (b := (decide ((IntKind.u32.wrap ((IntKind.u32.wrap ((IntKind.u32.wrap (h84 * 16777619)) + (IntKind.u32.wrap x94))) - (IntKind.u32.wrap (r10 * (IntKind.u32.wrap x98))))) = r9))) 73 rfl rfl hb111) rfl ?_
            refine WQ_skip rfl (gdN (b := (decide ((IntKind.u32.wrap ((IntKind.u32.wrap ((IntKind.u32.wrap (h84 * 16777619)) + (IntKind.u32.wrap x94))) - (IntKind.u32.wrap (r10 * (IntKind.u32.wrap x98))))) = r9))) 73 rfl rfl hb111) rfl ?_
            refine WQ_skip rfl (gdN (b := (decide ((IntKind.u32.wrap ((IntKind.u32.wrap ((IntKind.u32.wrap (h84 * 16777619)) + (IntKind.u32.wrap x94))) - (IntKind.u32.wrap (r10 * (IntKind.u32.wrap x98))))) = r9))) 73 rfl rfl hb111) rfl ?_
            refine WQ_skip rfl (gdN (b := (decide ((IntKind.u32.wrap ((IntKind.u32.wrap ((IntKind.u32.wrap (h84 * 16777619)) + (IntKind.u32.wrap x94))) - (IntKind.u32.wrap (r10 * (IntKind.u32.wrap x98))))) = r9))) 73 rfl rfl hb111) rfl ?_
            refine WQ_skip rfl (gdN (b := (decide ((IntKind.u32.wrap ((IntKind.u32.wrap ((IntKind.u32.wrap (h84 * 16777619)) + (IntKind.u32.wrap x94))) - (IntKind.u32.wrap (r10 * (IntKind.u32.wrap x98))))) = r9))) 73 rfl rfl hb111) rfl ?_
            refine WQ_skip rfl (gdN (b := (decide ((IntKind.u32.wrap ((IntKind.u32.wrap ((IntKind.u32.wrap (h84 * 16777619)) + (IntKind.u32.wrap x94))) - (IntKind.u32.wrap (r10 * (IntKind.u32.wrap x98))))) = r9))) 73 rfl rfl hb111) rfl ?_
            refine WQ_val rfl gd0 (o_pickF (v := .bool false) rfl hb111 rfl) rfl ?_
            refine WQ_nil ?_
            refine nrm ?_
            exact ⟨_, rfl, e0_78, e1_79, e5_80, e6_81, e7_82, rfl, rfl, h⟩
        · rintro ρ w109 ⟨t108, e84_107, e0_100, e1_101, e5_102, e6_103, e7_104, e8_105, e10_106, h⟩
          unfold F42_j5 at h
          refine WC_cond (t := t108) (by exact e84_107) (fun hb110 => ?_) (fun hb110 => ?_)
          · rw [if_pos hb110] at h
            refine WC_seq ?_
            refine WC_region ?_
            refine WL_val gd0 ((o_move (v := .int .i64 (IntKind.i64.wrap (i86 + 1))) (by exact e10_106)) _) rfl ?_
            refine WL_val gd0 ((o_move (v := .int .i64 (sep_n5 : Int)) (by exact e7_104)) _) rfl ?_
            refine WL_val gd0 ((o_sub rfl rfl) _) rfl ?_
            refine WL_val gd0 ((o_assign (v := .int .i64 (IntKind.i64.wrap ((IntKind.i64.wrap (i86 + 1)) - (sep_n5 : Int)))) rfl) _) rfl ?_
            refine WL_nil ?_
            refine nrm ?_
            refine WC_ret ?_
            refine rtB ?_
            refine rtT ?_
            refine rtB ?_
            refine rtT ?_
            refine rtE ?_
            exact gv1 rfl rfl h
          · rw [if_neg (neT hb110)] at h
            refine WC_skip ?_
            refine nrmB ?_
            refine nrm ?_
            obtain ⟨m88, hm88, h⟩ := h
            exact ⟨m88, hm88, _, _, e8_105, e10_106, e0_100, e1_101, e5_102, e6_103, e7_104, h⟩
      · rw [if_neg (of_decide_eq_false hb89)] at h
        refine WC_exit ?_
        refine exT ?_
        refine exT ?_
        refine exB ?_
        refine nrm ?_
        refine WC_seq ?_
        refine WC_region ?_
        refine WL_val gd0 ((o_assign (v := .int .i64 (-1)) rfl) _) rfl ?_
        refine WL_nil ?_
        refine nrm ?_
        refine WC_ret ?_
        refine rtE ?_
        exact gv1 rfl rfl h

def F44_b2 (hash7 : Int) (pow21 : Int) (sq23 : Int) (i25 : Int) (w26 : World) (nx26 : Int → Int → Int → World → Prop) (k : Value → World → Prop) : Prop :=
  if 0 < i25 then
  if (band .i64 i25 1) ≠ 0 then
    nx26 (IntKind.u32.wrap (pow21 * sq23)) (IntKind.u32.wrap (sq23 * sq23)) (shr .i64 i25 1) w26
  else
    nx26 pow21 (IntKind.u32.wrap (sq23 * sq23)) (shr .i64 i25 1) w26
else
  k (.tuple #[.int .u32 hash7, .int .u32 pow21]) w26
def F44_b1 (sep_n2 : Nat) (sep_a1 : Option Addr) (hash7 : Int) (i9 : Int) (w10 : World) (nx10 : Int → Int → World → Prop) (k : Value → World → Prop) : Prop :=
  if i9 < (sep_n2 : Int) then
  ∃ (p15 : Addr), sep_a1 = some p15 ∧ (0 : Int) ≤ i9 ∧ i9 < (sep_n2 : Int) ∧ ∃ (x17 : Int), w10.cell? (p15.add i9.toNat) = some (.int .u8 x17) ∧ nx10 (IntKind.u32.wrap ((IntKind.u32.wrap (hash7 * 16777619)) + (IntKind.u32.wrap x17))) (IntKind.i64.wrap (i9 + 1)) w10
else
  LoopP (fun (s : Int × Int × Int) w' nx' => F44_b2 hash7 (s.1) (s.2.1) (s.2.2) w' (fun x0 x1 x2 w => nx' (x0, x1, x2) w) k) (1, 16777619, (sep_n2 : Int)) w10
/-- internal bytealg.hashStr   byte  -/
def F44 (sep_a1 : Option Addr) (sep_n2 : Nat) (sep_c3 : Nat) (w4 : World) (k : Value → World → Prop) : Prop :=
  LoopP (fun (s : Int × Int) w' nx' => F44_b1 sep_n2 sep_a1 (s.1) (s.2) w' (fun x0 x1 w => nx' (x0, x1) w) k) (0, 0) w4
set_option maxRecDepth 100000 in
set_option maxHeartbeats 2000000 in
theorem w44 (sep_a1 : Option Addr) (sep_n2 : Nat) (sep_c3 : Nat) (w4 : World) (k : Value → World → Prop) (h : F44 sep_a1 sep_n2 sep_c3 w4 k) : Does Try.prog 44 #[.slice sep_a1 sep_n2 sep_c3] w4 k := by
  refine enter 40 Try.func44 rfl rfl rfl ?_
  intro ρ hρ
  have e0 := hρ 0 _ rfl
  unfold F44 at h
  refine WC_seq ?_
  refine WC_region ?_
  refine WL_val gd0 ((o_assign (v := .int .u32 0) rfl) _) rfl ?_
  refine WL_val gd0 ((o_assign (v := .int .u32 0) rfl) _) rfl ?_
  refine WL_nil ?_
  refine nrm ?_
  refine WC_seq ?_
  refine WC_region ?_
  refine WL_val gd0 ((o_assign (v := .int .u32 0) rfl) _) rfl ?_
  refine WL_nil ?_
  refine nrm ?_
  refine WC_seq ?_
  refine WC_seq ?_
  refine WC_region ?_
  refine WL_val gd0 ((o_assign (v := .int .i64 0) rfl) _) rfl ?_
  refine WL_nil ?_
  refine nrm ?_
  refine WC_block ?_
  obtain ⟨J10, ⟨n10, h0⟩, hr10⟩ := h
  refine WC_loop (fun n ρ w' => ∃ (hash7 i9 : Int), ρ 4 = .int .u32 hash7 ∧ ρ 5 = .int .i64 i9 ∧ ρ 0 = .slice sep_a1 sep_n2 sep_c3 ∧ J10 n (hash7, i9) w') ⟨n10, _, _, rfl, rfl, e0, h0⟩ ?_
  rintro n10 ρ w10 ⟨hash7, i9, e4_6, e5_8, e0_5, h⟩
  have h : F44_b1 sep_n2 sep_a1 hash7 i9 w10 (fun x0 x1 w => ∃ m, m < n10 ∧ J10 m (x0, x1) w) k := hr10 n10 (hash7, i9) w10 h
  unfold F44_b1 at h
  refine WC_seq ?_
  refine WC_seq ?_
  refine WC_region ?_
  refine WL_val gd0 ((o_move (v := .int .i64 i9) (by exact e5_8)) _) rfl ?_
  refine WL_val gd0 ((o_move (v := .slice sep_a1 sep_n2 sep_c3) (by exact e0_5)) _) rfl ?_
  refine WL_val gd0 ((o_len Try.underlying29 rfl) _) rfl ?_
  refine WL_val gd0 ((o_lss rfl rfl) _) rfl ?_
  refine WL_nil ?_
  refine nrm ?_
  refine WC_cond (t := (decide (i9 < (sep_n2 : Int)))) rfl (fun hb12 => ?_) (fun hb12 => ?_)
  · rw [if_pos (of_decide_eq_true hb12)] at h
    refine WC_skip ?_
    refine nrm ?_
    refine WC_seq ?_
    refine WC_block ?_
    refine WC_region ?_
    refine WL_val gd0 ((o_move (v := .int .u32 hash7) (by exact e4_6)) _) rfl ?_
    refine WL_val gd0 ((o_mul rfl rfl) _) rfl ?_
    refine WL_val gd0 ((o_move (v := .slice sep_a1 sep_n2 sep_c3) (by exact e0_5)) _) rfl ?_
    refine WL_val gd0 ((o_move (v := .int .i64 i9) (by exact e5_8)) _) rfl ?_
    obtain ⟨p15, q16, h⟩ := h
    obtain ⟨l13, u14, h⟩ := h
    refine WL_val gd0 ((o_indexAddr1 Try.underlying29 Try.sizeOf5 (by exact (congrArg (fun z => Value.slice z sep_n2 sep_c3) q16)) rfl l13 u14) _) rfl ?_
    obtain ⟨x17, hc18, h⟩ := h
    refine WL_val gd0 (o_load Try.isAgg5 rfl hc18) rfl ?_
    refine WL_val gd0 ((o_conv Try.underlying5 Try.underlying74 rfl) _) rfl ?_
    refine WL_val gd0 ((o_add rfl rfl) _) rfl ?_
    refine WL_val gd0 ((o_assign (v := .int .u32 (IntKind.u32.wrap ((IntKind.u32.wrap (hash7 * 16777619)) + (IntKind.u32.wrap x17)))) rfl) _) rfl ?_
    refine WL_nil ?_
    refine nrmB ?_
    refine nrm ?_
    refine WC_region ?_
    refine WL_val gd0 ((o_move (v := .int .i64 i9) (by exact e5_8)) _) rfl ?_
    refine WL_val gd0 ((o_add rfl rfl) _) rfl ?_
    refine WL_val gd0 ((o_assign (v := .int .i64 (IntKind.i64.wrap (i9 + 1))) rfl) _) rfl ?_
    refine WL_nil ?_
    refine nrm ?_
    obtain ⟨m11, hm11, h⟩ := h
    exact ⟨m11, hm11, _, _, rfl, rfl, e0_5, h⟩
  · rw [if_neg (of_decide_eq_false hb12)] at h
    refine WC_exit ?_
    refine exT ?_
    refine exT ?_
    refine exB ?_
    refine nrm ?_
    refine WC_seq ?_
    refine WC_region ?_
    refine WL_val gd0 ((o_assign (v := .int .u32 1) rfl) _) rfl ?_
    refine WL_val gd0 ((o_assign (v := .int .u32 16777619) rfl) _) rfl ?_
    refine WL_nil ?_
    refine nrm ?_
    refine WC_seq ?_
    refine WC_seq ?_
    refine WC_region ?_
    refine WL_val gd0 ((o_move (v := .slice sep_a1 sep_n2 sep_c3) (by exact e0_5)) _) rfl ?_
    refine WL_val gd0 ((o_len Try.underlying29 rfl) _) rfl ?_
    refine WL_val gd0 ((o_assign (v := .int .i64 (sep_n2 : Int)) rfl) _) rfl ?_
    refine WL_nil ?_
    refine nrm ?_
    refine WC_block ?_
    obtain ⟨J26, ⟨n26, h0⟩, hr26⟩ := h
    refine WC_loop (fun n ρ w' => ∃ (pow21 sq23 i25 : Int), ρ 6 = .int .u32 pow21 ∧ ρ 7 = .int .u32 sq23 ∧ ρ 8 = .int .i64 i25 ∧ ρ 4 = .int .u32 hash7 ∧ J26 n (pow21, sq23, i25) w') ⟨n26, _, _, _, rfl, rfl, rfl, e4_6, h0⟩ ?_
    rintro n26 ρ w26 ⟨pow21, sq23, i25, e6_20, e7_22, e8_24, e4_19, h⟩
    have h : F44_b2 hash7 pow21 sq23 i25 w26 (fun x0 x1 x2 w => ∃ m, m < n26 ∧ J26 m (x0, x1, x2) w) k := hr26 n26 (pow21, sq23, i25) w26 h
    unfold F44_b2 at h
    refine WC_seq ?_
    refine WC_seq ?_
    refine WC_region ?_
    refine WL_val gd0 ((o_move (v := .int .i64 i25) (by exact e8_24)) _) rfl ?_
    refine WL_val gd0 ((o_gtr rfl rfl) _) rfl ?_
    refine WL_nil ?_
    refine nrm ?_
    refine WC_cond (t := (decide (0 < i25))) rfl (fun hb28 => ?_) (fun hb28 => ?_)
    · rw [if_pos (of_decide_eq_true hb28)] at h
      refine WC_skip ?_
      refine nrm ?_
      refine WC_seq ?_
      refine WC_block ?_
      refine WC_seq ?_
      refine WC_seq ?_
      refine WC_region ?_
      refine WL_val gd0 ((o_move (v := .int .i64 i25) (by exact e8_24)) _) rfl ?_
      refine WL_val gd0 ((o_and rfl rfl) _) rfl ?_
      refine WL_val gd0 ((o_neq rfl rfl) _) rfl ?_
      refine WL_nil ?_
      refine nrm ?_
      refine WC_cond (t := (decide ((band .i64 i25 1) ≠ 0))) rfl (fun hb29 => ?_) (fun hb29 => ?_)
      · rw [if_pos (of_decide_eq_true hb29)] at h
        refine WC_region ?_
        refine WL_val gd0 ((o_move (v := .int .u32 pow21) (by exact e6_20)) _) rfl ?_
        refine WL_val gd0 ((o_move (v := .int .u32 sq23) (by exact e7_22)) _) rfl ?_
        refine WL_val gd0 ((o_mul rfl rfl) _) rfl ?_
        refine WL_val gd0 ((o_assign (v := .int .u32 (IntKind.u32.wrap (pow21 * sq23))) rfl) _) rfl ?_
        refine WL_nil ?_
        refine nrm ?_
        refine WC_region ?_
        refine WL_val gd0 ((o_move (v := .int .u32 sq23) (by exact e7_22)) _) rfl ?_
        refine WL_val gd0 ((o_move (v := .int .u32 sq23) (by exact e7_22)) _) rfl ?_
        refine WL_val gd0 ((o_mul rfl rfl) _) rfl ?_
        refine WL_val gd0 ((o_assign (v := .int .u32 (IntKind.u32.wrap (sq23 * sq23))) rfl) _) rfl ?_
        refine WL_nil ?_
        refine nrmB ?_
        refine nrm ?_
        refine WC_region ?_
        refine WL_val gd0 ((o_move (v := .int .i64 i25) (by exact e8_24)) _) rfl ?_
        refine WL_val gd0 ((o_shr rfl rfl (by decide)) _) rfl ?_
        refine WL_val gd0 ((o_assign (v := .int .i64 (shr .i64 i25 1)) rfl) _) rfl ?_
        refine WL_nil ?_
        refine nrm ?_
        obtain ⟨m27, hm27, h⟩ := h
        exact ⟨m27, hm27, _, _, _, rfl, rfl, rfl, e4_19, h⟩
      · rw [if_neg (of_decide_eq_false hb29)] at h
        refine WC_skip ?_
        refine nrm ?_
        refine WC_region ?_
        refine WL_val gd0 ((o_move (v := .int .u32 sq23) (by exact e7_22)) _) rfl ?_
        refine WL_val gd0 ((o_move (v := .int .u32 sq23) (by exact e7_22)) _) rfl ?_
        refine WL_val gd0 ((o_mul rfl rfl) _) rfl ?_
        refine WL_val gd0 ((o_assign (v := .int .u32 (IntKind.u32.wrap (sq23 * sq23))) rfl) _) rfl ?_
        refine WL_nil ?_
        refine nrmB ?_
        refine nrm ?_
        refine WC_region ?_
        refine WL_val gd0 ((o_move (v := .int .i64 i25) (by exact e8_24)) _) rfl ?_
        refine WL_val gd0 ((o_shr rfl rfl (by decide)) _) rfl ?_
        refine WL_val gd0 ((o_assign (v := .int .i64 (shr .i64 i25 1)) rfl) _) rfl ?_
        refine WL_nil ?_
        refine nrm ?_
        obtain ⟨m27, hm27, h⟩ := h
        exact ⟨m27, hm27, _, _, _, e6_20, rfl, rfl, e4_19, h⟩
    · rw [if_neg (of_decide_eq_false hb28)] at h
      refine WC_exit ?_
      refine exT ?_
      refine exT ?_
      refine exB ?_
      refine nrm ?_
      refine WC_seq ?_
      refine WC_region ?_
      refine WL_val gd0 ((o_move (v := .int .u32 hash7) (by exact e4_19)) _) rfl ?_
      refine WL_val gd0 ((o_move (v := .int .u32 pow21) (by exact e6_20)) _) rfl ?_
      refine WL_val gd0 ((o_assign (v := .int .u32 hash7) rfl) _) rfl ?_
      refine WL_val gd0 ((o_assign (v := .int .u32 pow21) rfl) _) rfl ?_
      refine WL_nil ?_
      refine nrm ?_
      refine WC_ret ?_
      refine rtE ?_
      exact gv2 rfl rfl rfl h


end Go.Proofs.Ytnaomgfdcadncaa
