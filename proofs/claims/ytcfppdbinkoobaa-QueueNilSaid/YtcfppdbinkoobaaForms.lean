/-
  The forms of the functions, and their walks: written by a program of this claim (gen.py) off the elaborated translation.
-/
import Derived.Test.YtcfppdbinkoobaaProg
import Derived.Test.YtcfppdbinkoobaaBase
import Derived.KernelRfl
import Derived.Test.YtcfppdbinkoobaaFormsP0
namespace Go.Proofs.Ytcfppdbinkoobaa
open Go Go.Sh Go.Proofs
set_option linter.unusedVariables false
def F17_b1 (p8 : Addr) (priority5 : Int) (item6 : Int) (p10 : Addr) (at56 : Int) (w57 : World) (nx57 : Int → World → Prop) (k : Value → World → Prop) : Prop :=
  ∃ (x_a59 : Option Addr) (x_n60 x_c61 : Nat), w57.cell? (p8.add 1) = some (.slice x_a59 x_n60 x_c61) ∧ if at56 < (x_n60 : Int) then
  ∃ (x_a64 : Option Addr) (x_n65 x_c66 : Nat), w57.cell? (p8.add 1) = some (.slice x_a64 x_n65 x_c66) ∧ ∃ (p70 : Addr), x_a64 = some p70 ∧ (0 : Int) ≤ at56 ∧ at56 < (x_n65 : Int) ∧ ∃ (x72 : Int), w57.cell? (p70.add (at56.toNat * 2)) = some (.int .i64 x72) ∧ if x72 ≤ priority5 then
    nx57 (IntKind.i64.wrap (at56 + 1)) w57
  else
    New w57 66 [] (fun p75 w76 => ∃ (x_a77 : Option Addr) (x_n78 x_c79 : Nat), w76.cell? (p8.add 1) = some (.slice x_a77 x_n78 x_c79) ∧ (0 : Int) ≤ at56 ∧ at56 ≤ (x_c79 : Int) ∧ ∃ (b_a83 : Option Addr) (b_n84 b_c85 : Nat) (w86 : World), (Builtin.append_ #[38, 38] 38 #[.slice (some p75) 0 0, .slice x_a77 at56.toNat x_c79]).run Try.prog w76 = .ok (.slice b_a83 b_n84 b_c85) w86 ∧ New w86 66 [.int .i64 priority5, .int .i64 item6] (fun p88 w89 => ∃ (b_a90 : Option Addr) (b_n91 b_c92 : Nat) (w93 : World), (Builtin.append_ #[38, 38] 38 #[.slice b_a83 b_n84 b_c85, .slice (some p88) 1 1]).run Try.prog w89 = .ok (.slice b_a90 b_n91 b_c92) w93 ∧ ∃ (x_a95 : Option Addr) (x_n96 x_c97 : Nat), w93.cell? (p8.add 1) = some (.slice x_a95 x_n96 x_c97) ∧ (0 : Int) ≤ at56 ∧ at56 ≤ (x_n96 : Int) ∧ ∃ (b_a101 : Option Addr) (b_n102 b_c103 : Nat) (w104 : World), (Builtin.append_ #[38, 38] 38 #[.slice b_a90 b_n91 b_c92, .slice (cutA x_a95 x_c97 at56.toNat 2) (x_n96 - at56.toNat) (x_c97 - at56.toNat)]).run Try.prog w93 = .ok (.slice b_a101 b_n102 b_c103) w104 ∧ Put w104 (p8.add 1) (.slice b_a101 b_n102 b_c103) (fun w106 => ∃ (x108 : Int) (x_a109 : Option Addr) (x_n110 x_c111 : Nat), Cells w106 p8 0 [.int .i64 x108, .slice x_a109 x_n110 x_c111] ∧ PutAll w106 p10 [.int .i64 x108, .slice x_a109 x_n110 x_c111] (fun w113 => ∃ (r115 : Int) (r_a116 : Option Addr) (r_n117 r_c118 : Nat), Cells w113 p10 0 [.int .i64 r115, .slice r_a116 r_n117 r_c118] ∧ k (.tuple #[.agg #[.int .i64 r115, .slice r_a116 r_n117 r_c118], .int .i64 0]) w113))))
else
  New w57 66 [] (fun p120 w121 => ∃ (x_a122 : Option Addr) (x_n123 x_c124 : Nat), w121.cell? (p8.add 1) = some (.slice x_a122 x_n123 x_c124) ∧ (0 : Int) ≤ at56 ∧ at56 ≤ (x_c124 : Int) ∧ ∃ (b_a128 : Option Addr) (b_n129 b_c130 : Nat) (w131 : World), (Builtin.append_ #[38, 38] 38 #[.slice (some p120) 0 0, .slice x_a122 at56.toNat x_c124]).run Try.prog w121 = .ok (.slice b_a128 b_n129 b_c130) w131 ∧ New w131 66 [.int .i64 priority5, .int .i64 item6] (fun p133 w134 => ∃ (b_a135 : Option Addr) (b_n136 b_c137 : Nat) (w138 : World), (Builtin.append_ #[38, 38] 38 #[.slice b_a128 b_n129 b_c130, .slice (some p133) 1 1]).run Try.prog w134 = .ok (.slice b_a135 b_n136 b_c137) w138 ∧ ∃ (x_a140 : Option Addr) (x_n141 x_c142 : Nat), w138.cell? (p8.add 1) = some (.slice x_a140 x_n141 x_c142) ∧ (0 : Int) ≤ at56 ∧ at56 ≤ (x_n141 : Int) ∧ ∃ (b_a146 : Option Addr) (b_n147 b_c148 : Nat) (w149 : World), (Builtin.append_ #[38, 38] 38 #[.slice b_a135 b_n136 b_c137, .slice (cutA x_a140 x_c142 at56.toNat 2) (x_n141 - at56.toNat) (x_c142 - at56.toNat)]).run Try.prog w138 = .ok (.slice b_a146 b_n147 b_c148) w149 ∧ Put w149 (p8.add 1) (.slice b_a146 b_n147 b_c148) (fun w151 => ∃ (x153 : Int) (x_a154 : Option Addr) (x_n155 x_c156 : Nat), Cells w151 p8 0 [.int .i64 x153, .slice x_a154 x_n155 x_c156] ∧ PutAll w151 p10 [.int .i64 x153, .slice x_a154 x_n155 x_c156] (fun w158 => ∃ (r160 : Int) (r_a161 : Option Addr) (r_n162 r_c163 : Nat), Cells w158 p10 0 [.int .i64 r160, .slice r_a161 r_n162 r_c163] ∧ k (.tuple #[.agg #[.int .i64 r160, .slice r_a161 r_n162 r_c163], .int .i64 0]) w158))))
/-- spacecraft spacecraftref08.Push -/
def F17 (q1 : Int) (q_a2 : Option Addr) (q_n3 : Nat) (q_c4 : Nat) (priority5 : Int) (item6 : Int) (w7 : World) (k : Value → World → Prop) : Prop :=
  New w7 40 [.int .i64 q1, .slice q_a2 q_n3 q_c4] (fun p8 w9 => New w9 40 [.int .i64 0, .slice none 0 0] (fun p10 w11 => ∃ (x12 : Int) (x_a13 : Option Addr) (x_n14 x_c15 : Nat), Cells w11 p8 0 [.int .i64 x12, .slice x_a13 x_n14 x_c15] ∧ Does Try.prog 29 #[.agg #[.int .i64 x12, .slice x_a13 x_n14 x_c15], .int .i64 item6] w11 (fun v w17 => ∃ (x18 : Int), v = .int .i64 x18 ∧ if 0 ≤ x18 then
  ∃ (x20 : Int) (x_a21 : Option Addr) (x_n22 x_c23 : Nat), Cells w17 p8 0 [.int .i64 x20, .slice x_a21 x_n22 x_c23] ∧ PutAll w17 p10 [.int .i64 x20, .slice x_a21 x_n22 x_c23] (fun w25 => ∃ (r27 : Int) (r_a28 : Option Addr) (r_n29 r_c30 : Nat), Cells w25 p10 0 [.int .i64 r27, .slice r_a28 r_n29 r_c30] ∧ k (.tuple #[.agg #[.int .i64 r27, .slice r_a28 r_n29 r_c30], .int .i64 9]) w25)
else
  ∃ (x_a32 : Option Addr) (x_n33 x_c34 : Nat), w17.cell? (p8.add 1) = some (.slice x_a32 x_n33 x_c34) ∧ ∃ (x36 : Int), w17.cell? p8 = some (.int .i64 x36) ∧ if x36 ≤ (x_n33 : Int) then
    ∃ (x39 : Int) (x_a40 : Option Addr) (x_n41 x_c42 : Nat), Cells w17 p8 0 [.int .i64 x39, .slice x_a40 x_n41 x_c42] ∧ PutAll w17 p10 [.int .i64 x39, .slice x_a40 x_n41 x_c42] (fun w44 => ∃ (r46 : Int) (r_a47 : Option Addr) (r_n48 r_c49 : Nat), Cells w44 p10 0 [.int .i64 r46, .slice r_a47 r_n48 r_c49] ∧ k (.tuple #[.agg #[.int .i64 r46, .slice r_a47 r_n48 r_c49], .int .i64 7]) w44)
  else
    LoopP (fun (s : Int) w' nx' => F17_b1 p8 priority5 item6 p10 s w' (fun x0 w => nx' x0 w) k) 0 w17)))
set_option maxRecDepth 100000 in
set_option maxHeartbeats 2000000 in
theorem w17 (q1 : Int) (q_a2 : Option Addr) (q_n3 : Nat) (q_c4 : Nat) (priority5 : Int) (item6 : Int) (w7 : World) (k : Value → World → Prop) (h : F17 q1 q_a2 q_n3 q_c4 priority5 item6 w7 k) : Does Try.prog 17 #[.agg #[.int .i64 q1, .slice q_a2 q_n3 q_c4], .int .i64 priority5, .int .i64 item6] w7 k := by
  refine enter 59 Try.func17 rfl rfl rfl ?_
  intro ρ hρ
  have e0 := hρ 0 _ rfl
  have e1 := hρ 1 _ rfl
  have e2 := hρ 2 _ rfl
  unfold F17 at h
  refine WC_seq ?_
  refine WC_region ?_
  have h := New.out h
  refine WL_val gd0 (o_box (v := .agg #[.int .i64 q1, .slice q_a2 q_n3 q_c4]) (cs := [.int .i64 q1, .slice q_a2 q_n3 q_c4]) (by exact e0) rfl) rfl ?_
  generalize hp8 : fresh w7 = p8 at h ⊢
  generalize hw9 : push w7 40 [.int .i64 q1, .slice q_a2 q_n3 q_c4] = w9 at h ⊢
  try dsimp only at h
  have h := New.out h
  refine WL_val gd0 (o_alloc (z := .agg #[.int .i64 0, .slice none 0 0]) (cs := [.int .i64 0, .slice none 0 0]) Try.zeroValue40 rfl) rfl ?_
  generalize hp10 : fresh w9 = p10 at h ⊢
  generalize hw11 : push w9 40 [.int .i64 0, .slice none 0 0] = w11 at h ⊢
  try dsimp only at h
  refine WL_val gd0 ((o_assign (v := .int .i64 0) rfl) _) rfl ?_
  refine WL_nil ?_
  refine nrm ?_
  refine WC_seq ?_
  refine WC_seq ?_
  refine WC_region ?_
  obtain ⟨x12, x_a13, x_n14, x_c15, hc16, h⟩ := h
  refine WL_val gd0 (o_loadAgg (vs := [.int .i64 x12, .slice x_a13 x_n14 x_c15]) Try.isAgg40 Try.sizeOf40 rfl hc16) rfl ?_
  refine WL_val gd0 ((o_move (v := .int .i64 item6) (by exact e2)) _) rfl ?_
  refine WL_call gd0 (o_call Try.call29 (argCons rfl (argCons rfl argNil)) _) rfl (h.mono ?_)
  rintro _ w17 ⟨x18, rfl, h⟩
  refine WL_val gd0 ((o_geq rfl rfl) _) rfl ?_
  refine WL_nil ?_
  refine nrm ?_
  refine WC_cond (t := (decide (0 ≤ x18))) rfl (fun hb19 => ?_) (fun hb19 => ?_)
  · rw [if_pos (of_decide_eq_true hb19)] at h
    refine WC_seq ?_
    refine WC_region ?_
    obtain ⟨x20, x_a21, x_n22, x_c23, hc24, h⟩ := h
    refine WL_val gd0 (o_loadAgg (vs := [.int .i64 x20, .slice x_a21 x_n22 x_c23]) Try.isAgg40 Try.sizeOf40 rfl hc24) rfl ?_
    obtain ⟨c26, h⟩ := h
    refine WL_act gd0 (o_storeAgg (vs := [.int .i64 x20, .slice x_a21 x_n22 x_c23]) Try.sizeOf40 rfl rfl rfl c26) ?_
    generalize hw25 : setAll w17 p10 0 [.int .i64 x20, .slice x_a21 x_n22 x_c23] = w25 at h ⊢
    try dsimp only at h
    refine WL_val gd0 ((o_assign (v := .int .i64 9) rfl) _) rfl ?_
    refine WL_nil ?_
    refine nrm ?_
    refine WC_ret ?_
    refine rtT ?_
    refine rtE ?_
    obtain ⟨r27, r_a28, r_n29, r_c30, hc31, h⟩ := h
    exact gvC1 (vs := [.int .i64 r27, .slice r_a28 r_n29 r_c30]) rfl Try.isAgg40 Try.sizeOf40 rfl hc31 rfl h
  · rw [if_neg (of_decide_eq_false hb19)] at h
    refine WC_skip ?_
    refine nrm ?_
    refine WC_seq ?_
    refine WC_seq ?_
    refine WC_region ?_
    refine WL_val gd0 ((o_fieldAddr 1 Try.underlying40 rfl Try.sizeOf38 rfl rfl rfl) _) rfl ?_
    obtain ⟨x_a32, x_n33, x_c34, hc35, h⟩ := h
    refine WL_val gd0 (o_load Try.isAgg38 rfl hc35) rfl ?_
    refine WL_val gd0 ((o_len Try.underlying38 rfl) _) rfl ?_
    refine WL_val gd0 ((o_fieldAddr0 Try.underlying40 rfl Try.sizeOf3 rfl rfl rfl) _) rfl ?_
    obtain ⟨x36, hc37, h⟩ := h
    refine WL_val gd0 (o_load Try.isAgg3 rfl hc37) rfl ?_
    refine WL_val gd0 ((o_geq rfl rfl) _) rfl ?_
    refine WL_nil ?_
    refine nrm ?_
    refine WC_cond (t := (decide (x36 ≤ (x_n33 : Int)))) rfl (fun hb38 => ?_) (fun hb38 => ?_)
    · rw [if_pos (of_decide_eq_true hb38)] at h
      refine WC_seq ?_
      refine WC_region ?_
      obtain ⟨x39, x_a40, x_n41, x_c42, hc43, h⟩ := h
      refine WL_val gd0 (o_loadAgg (vs := [.int .i64 x39, .slice x_a40 x_n41 x_c42]) Try.isAgg40 Try.sizeOf40 rfl hc43) rfl ?_
      obtain ⟨c45, h⟩ := h
      refine WL_act gd0 (o_storeAgg (vs := [.int .i64 x39, .slice x_a40 x_n41 x_c42]) Try.sizeOf40 rfl rfl rfl c45) ?_
      generalize hw44 : setAll w17 p10 0 [.int .i64 x39, .slice x_a40 x_n41 x_c42] = w44 at h ⊢
      try dsimp only at h
      refine WL_val gd0 ((o_assign (v := .int .i64 7) rfl) _) rfl ?_
      refine WL_nil ?_
      refine nrm ?_
      refine WC_ret ?_
      refine rtT ?_
      refine rtE ?_
      obtain ⟨r46, r_a47, r_n48, r_c49, hc50, h⟩ := h
      exact gvC1 (vs := [.int .i64 r46, .slice r_a47 r_n48 r_c49]) rfl Try.isAgg40 Try.sizeOf40 rfl hc50 rfl h
    · rw [if_neg (of_decide_eq_false hb38)] at h
      refine WC_skip ?_
      refine nrm ?_
      refine WC_seq ?_
      refine WC_region ?_
      refine WL_val gd0 ((o_assign (v := .int .i64 0) rfl) _) rfl ?_
      refine WL_nil ?_
      refine nrm ?_
      refine WC_seq ?_
      refine WC_block ?_
      obtain ⟨J57, ⟨n57, h0⟩, hr57⟩ := h
      refine WC_loop (fun n ρ w' => ∃ (at56 : Int), ρ 8 = .int .i64 at56 ∧ ρ 1 = .int .i64 priority5 ∧ ρ 2 = .int .i64 item6 ∧ ρ 3 = .pointer (some p8) ∧ ρ 6 = .pointer (some p10) ∧ J57 n at56 w') ⟨n57, _, rfl, e1, e2, rfl, rfl, h0⟩ ?_
      rintro n57 ρ w57 ⟨at56, e8_55, e1_51, e2_52, e3_53, e6_54, h⟩
      have h : F17_b1 p8 priority5 item6 p10 at56 w57 (fun x0 w => ∃ m, m < n57 ∧ J57 m x0 w) k := hr57 n57 at56 w57 h
      unfold F17_b1 at h
      refine WC_seq ?_
      refine WC_seq ?_
      refine WC_region ?_
      refine WL_val gd0 ((o_move (v := .int .i64 at56) (by exact e8_55)) _) rfl ?_
      refine WL_val gd0 ((o_fieldAddr 1 Try.underlying40 rfl Try.sizeOf38 rfl rfl (by exact e3_53)) _) rfl ?_
      obtain ⟨x_a59, x_n60, x_c61, hc62, h⟩ := h
      refine WL_val gd0 (o_load Try.isAgg38 rfl hc62) rfl ?_
      refine WL_val gd0 ((o_len Try.underlying38 rfl) _) rfl ?_
      refine WL_val gd0 ((o_lss rfl rfl) _) rfl ?_
      refine WL_val gd0 ((o_move (v := .bool (decide (at56 < (x_n60 : Int)))) rfl) _) rfl ?_
      refine bsplit (decide (at56 < (x_n60 : Int))) (fun hb63 => ?_) (fun hb63 => ?_)
      · rw [if_pos (of_decide_eq_true hb63)] at h
        refine WL_val (gdY (b := (decide (at56 < (x_n60 : Int)))) 27 rfl rfl hb63) ((o_fieldAddr 1 Try.underlying40 rfl Try.sizeOf38 rfl rfl (by exact e3_53)) _) rfl ?_
        obtain ⟨x_a64, x_n65, x_c66, hc67, h⟩ := h
        refine WL_val (gdY (b := (decide (at56 < (x_n60 : Int)))) 27 rfl rfl hb63) (o_load Try.isAgg38 rfl hc67) rfl ?_
        refine WL_val (gdY (b := (decide (at56 < (x_n60 : Int)))) 27 rfl rfl hb63) ((o_move (v := .int .i64 at56) (by exact e8_55)) _) rfl ?_
        obtain ⟨p70, q71, h⟩ := h
        obtain ⟨l68, u69, h⟩ := h
        refine WL_val (gdY (b := (decide (at56 < (x_n60 : Int)))) 27 rfl rfl hb63) ((o_indexAddr Try.underlying38 Try.sizeOf66 (by exact (congrArg (fun z => Value.slice z x_n65 x_c66) q71)) rfl l68 u69) _) rfl ?_
        refine WL_val (gdY (b := (decide (at56 < (x_n60 : Int)))) 27 rfl rfl hb63) ((o_fieldAddr0 Try.underlying66 rfl Try.sizeOf3 rfl rfl rfl) _) rfl ?_
        obtain ⟨x72, hc73, h⟩ := h
        refine WL_val (gdY (b := (decide (at56 < (x_n60 : Int)))) 27 rfl rfl hb63) (o_load Try.isAgg3 rfl hc73) rfl ?_
        refine WL_val (gdY (b := (decide (at56 < (x_n60 : Int)))) 27 rfl rfl hb63) ((o_move (v := .int .i64 priority5) (by exact e1_51)) _) rfl ?_
        refine WL_val (gdY (b := (decide (at56 < (x_n60 : Int)))) 27 rfl rfl hb63) ((o_leq rfl rfl) _) rfl ?_
        refine WL_val gd0 ((o_pickT (v := .bool (decide (x72 ≤ priority5))) rfl hb63 rfl) _) rfl ?_
        refine WL_nil ?_
        refine nrm ?_
        refine WC_cond (t := (decide (x72 ≤ priority5))) rfl (fun hb74 => ?_) (fun hb74 => ?_)
        · rw [if_pos (of_decide_eq_true hb74)] at h
          refine WC_skip ?_
          refine nrm ?_
          refine WC_block ?_
          refine WC_region ?_
          refine WL_val gd0 ((o_move (v := .int .i64 at56) (by exact e8_55)) _) rfl ?_
          refine WL_val gd0 ((o_add rfl rfl) _) rfl ?_
          refine WL_val gd0 ((o_assign (v := .int .i64 (IntKind.i64.wrap (at56 + 1))) rfl) _) rfl ?_
          refine WL_nil ?_
          refine nrmB ?_
          refine nrm ?_
          obtain ⟨m58, hm58, h⟩ := h
          exact ⟨m58, hm58, _, rfl, e1_51, e2_52, e3_53, e6_54, h⟩
        · rw [if_neg (of_decide_eq_false hb74)] at h
          refine WC_exit ?_
          refine exT ?_
          refine exT ?_
          refine exB ?_
          refine nrm ?_
          refine WC_seq ?_
          refine WC_region ?_
          have h := New.out h
          refine WL_val gd0 (o_buildSlice (e := 66) (ps := []) (cs := []) partNil (fun w => by kernel_rfl)) rfl ?_
          generalize hp75 : fresh w57 = p75 at h ⊢
          generalize hw76 : push w57 66 [] = w76 at h ⊢
          try dsimp only at h
          refine WL_val gd0 ((o_fieldAddr 1 Try.underlying40 rfl Try.sizeOf38 rfl rfl (by exact e3_53)) _) rfl ?_
          obtain ⟨x_a77, x_n78, x_c79, hc80, h⟩ := h
          refine WL_val gd0 (o_load Try.isAgg38 rfl hc80) rfl ?_
          refine WL_val gd0 ((o_move (v := .int .i64 at56) (by exact e8_55)) _) rfl ?_
          obtain ⟨c81, c82, h⟩ := h
          refine WL_val gd0 ((o_sliceH Try.underlying38 Try.sizeOf66 rfl rfl c81 c82) _) rfl ?_
          obtain ⟨b_a83, b_n84, b_c85, w86, r87, h⟩ := h
          refine WL_val gd0 (o_append rfl rfl r87) rfl ?_
          refine WL_val gd0 ((o_assign (v := .slice b_a83 b_n84 b_c85) rfl) _) rfl ?_
          refine WL_nil ?_
          refine nrm ?_
          refine WC_seq ?_
          refine WC_region ?_
          refine WL_val gd0 ((o_move (v := .slice b_a83 b_n84 b_c85) rfl) _) rfl ?_
          refine WL_val gd0 ((o_move (v := .int .i64 priority5) (by exact e1_51)) _) rfl ?_
          refine WL_val gd0 ((o_move (v := .int .i64 item6) (by exact e2_52)) _) rfl ?_
          refine WL_val gd0 ((o_build (ps := [(0, .int .i64 priority5), (1, .int .i64 item6)]) (v := .agg #[.int .i64 priority5, .int .i64 item6]) (partCons rfl (partCons rfl partNil)) (fun w => by kernel_rfl)) _) rfl ?_
          have h := New.out h
          refine WL_val gd0 (o_buildSlice (e := 66) (ps := [(0, .agg #[.int .i64 priority5, .int .i64 item6])]) (cs := [.int .i64 priority5, .int .i64 item6]) (partCons rfl partNil) (fun w => by kernel_rfl)) rfl ?_
          generalize hp88 : fresh w86 = p88 at h ⊢
          generalize hw89 : push w86 66 [.int .i64 priority5, .int .i64 item6] = w89 at h ⊢
          try dsimp only at h
          obtain ⟨b_a90, b_n91, b_c92, w93, r94, h⟩ := h
          refine WL_val gd0 (o_append rfl rfl r94) rfl ?_
          refine WL_val gd0 ((o_assign (v := .slice b_a90 b_n91 b_c92) rfl) _) rfl ?_
          refine WL_nil ?_
          refine nrm ?_
          refine WC_seq ?_
          refine WC_region ?_
          refine WL_val gd0 ((o_move (v := .slice b_a90 b_n91 b_c92) rfl) _) rfl ?_
          refine WL_val gd0 ((o_fieldAddr 1 Try.underlying40 rfl Try.sizeOf38 rfl rfl (by exact e3_53)) _) rfl ?_
          obtain ⟨x_a95, x_n96, x_c97, hc98, h⟩ := h
          refine WL_val gd0 (o_load Try.isAgg38 rfl hc98) rfl ?_
          refine WL_val gd0 ((o_move (v := .int .i64 at56) (by exact e8_55)) _) rfl ?_
          obtain ⟨c99, c100, h⟩ := h
          refine WL_val gd0 ((o_sliceL Try.underlying38 Try.sizeOf66 rfl rfl c99 c100) _) rfl ?_
          obtain ⟨b_a101, b_n102, b_c103, w104, r105, h⟩ := h
          refine WL_val gd0 (o_append rfl rfl r105) rfl ?_
          refine WL_val gd0 ((o_fieldAddr 1 Try.underlying40 rfl Try.sizeOf38 rfl rfl (by exact e3_53)) _) rfl ?_
          obtain ⟨c107, h⟩ := h
          refine WL_act gd0 (o_store (v := .slice b_a101 b_n102 b_c103) Try.sizeOf38 rfl rfl rfl c107) ?_
          generalize hw106 : World.setCell w104 (p8.add 1) (.slice b_a101 b_n102 b_c103) = w106 at h ⊢
          try dsimp only at h
          refine WL_nil ?_
          refine nrm ?_
          refine WC_seq ?_
          refine WC_region ?_
          obtain ⟨x108, x_a109, x_n110, x_c111, hc112, h⟩ := h
          refine WL_val gd0 (o_loadAgg (vs := [.int .i64 x108, .slice x_a109 x_n110 x_c111]) Try.isAgg40 Try.sizeOf40 (by exact e3_53) hc112) rfl ?_
          obtain ⟨c114, h⟩ := h
          refine WL_act gd0 (o_storeAgg (vs := [.int .i64 x108, .slice x_a109 x_n110 x_c111]) Try.sizeOf40 (by exact e6_54) rfl rfl c114) ?_
          generalize hw113 : setAll w106 p10 0 [.int .i64 x108, .slice x_a109 x_n110 x_c111] = w113 at h ⊢
          try dsimp only at h
          refine WL_val gd0 ((o_assign (v := .int .i64 0) rfl) _) rfl ?_
          refine WL_nil ?_
          refine nrm ?_
          refine WC_ret ?_
          refine rtE ?_
          obtain ⟨r115, r_a116, r_n117, r_c118, hc119, h⟩ := h
          exact gvC1 (vs := [.int .i64 r115, .slice r_a116 r_n117 r_c118]) rfl Try.isAgg40 Try.sizeOf40 (by exact e6_54) hc119 rfl h
      · rw [if_neg (of_decide_eq_false hb63)] at h
        refine WL_skip (gdN (b := (decide (at56 < (x_n60 : Int)))) 27 rfl rfl hb63) rfl ?_
        refine WL_skip (gdN (b := (decide (at56 < (x_n60 : Int)))) 27 rfl rfl hb63) rfl ?_
        refine WL_skip (gdN (b := (decide (at56 < (x_n60 : Int)))) 27 rfl rfl hb63) rfl ?_
        refine WL_skip (gdN (b := (decide (at56 < (x_n60 : Int)))) 27 rfl rfl hb63) rfl ?_
        refine WL_skip (gdN (b := (decide (at56 < (x_n60 : Int)))) 27 rfl rfl hb63) rfl ?_
        refine WL_skip (gdN (b := (decide (at56 < (x_n60 : Int)))) 27 rfl rfl hb63) rfl ?_
        refine WL_skip (gdN (b := (decide (at56 < (x_n60 : Int)))) 27 rfl rfl hb63) rfl ?_
        refine WL_skip (gdN (b := (decide (at56 < (x_n60 : Int)))) 27 rfl rfl hb63) rfl ?_
        refine WL_val gd0 ((o_pickF (v := .bool false) rfl hb63 rfl) _) rfl ?_
        refine WL_nil ?_
        refine nrm ?_
        refine WC_cond (t := false) rfl (fun hx => by rw [(rfl : false = false)] at hx; cases hx) (fun _ => ?_)
        refine WC_exit ?_
        refine exT ?_
        refine exT ?_
        refine exB ?_
        refine nrm ?_
        refine WC_seq ?_
        refine WC_region ?_
        have h := New.out h
        refine WL_val gd0 (o_buildSlice (e := 66) (ps := []) (cs := []) partNil (fun w => by kernel_rfl)) rfl ?_
        generalize hp120 : fresh w57 = p120 at h ⊢
        generalize hw121 : push w57 66 [] = w121 at h ⊢
        try dsimp only at h
        refine WL_val gd0 ((o_fieldAddr 1 Try.underlying40 rfl Try.sizeOf38 rfl rfl (by exact e3_53)) _) rfl ?_
        obtain ⟨x_a122, x_n123, x_c124, hc125, h⟩ := h
        refine WL_val gd0 (o_load Try.isAgg38 rfl hc125) rfl ?_
        refine WL_val gd0 ((o_move (v := .int .i64 at56) (by exact e8_55)) _) rfl ?_
        obtain ⟨c126, c127, h⟩ := h
        refine WL_val gd0 ((o_sliceH Try.underlying38 Try.sizeOf66 rfl rfl c126 c127) _) rfl ?_
        obtain ⟨b_a128, b_n129, b_c130, w131, r132, h⟩ := h
        refine WL_val gd0 (o_append rfl rfl r132) rfl ?_
        refine WL_val gd0 ((o_assign (v := .slice b_a128 b_n129 b_c130) rfl) _) rfl ?_
        refine WL_nil ?_
        refine nrm ?_
        refine WC_seq ?_
        refine WC_region ?_
        refine WL_val gd0 ((o_move (v := .slice b_a128 b_n129 b_c130) rfl) _) rfl ?_
        refine WL_val gd0 ((o_move (v := .int .i64 priority5) (by exact e1_51)) _) rfl ?_
        refine WL_val gd0 ((o_move (v := .int .i64 item6) (by exact e2_52)) _) rfl ?_
        refine WL_val gd0 ((o_build (ps := [(0, .int .i64 priority5), (1, .int .i64 item6)]) (v := .agg #[.int .i64 priority5, .int .i64 item6]) (partCons rfl (partCons rfl partNil)) (fun w => by kernel_rfl)) _) rfl ?_
        have h := New.out h
        refine WL_val gd0 (o_buildSlice (e := 66) (ps := [(0, .agg #[.int .i64 priority5, .int .i64 item6])]) (cs := [.int .i64 priority5, .int .i64 item6]) (partCons rfl partNil) (fun w => by kernel_rfl)) rfl ?_
        generalize hp133 : fresh w131 = p133 at h ⊢
        generalize hw134 : push w131 66 [.int .i64 priority5, .int .i64 item6] = w134 at h ⊢
        try dsimp only at h
        obtain ⟨b_a135, b_n136, b_c137, w138, r139, h⟩ := h
        refine WL_val gd0 (o_append rfl rfl r139) rfl ?_
        refine WL_val gd0 ((o_assign (v := .slice b_a135 b_n136 b_c137) rfl) _) rfl ?_
        refine WL_nil ?_
        refine nrm ?_
        refine WC_seq ?_
        refine WC_region ?_
        refine WL_val gd0 ((o_move (v := .slice b_a135 b_n136 b_c137) rfl) _) rfl ?_
        refine WL_val gd0 ((o_fieldAddr 1 Try.underlying40 rfl Try.sizeOf38 rfl rfl (by exact e3_53)) _) rfl ?_
        obtain ⟨x_a140, x_n141, x_c142, hc143, h⟩ := h
        refine WL_val gd0 (o_load Try.isAgg38 rfl hc143) rfl ?_
        refine WL_val gd0 ((o_move (v := .int .i64 at56) (by exact e8_55)) _) rfl ?_
        obtain ⟨c144, c145, h⟩ := h
        refine WL_val gd0 ((o_sliceL Try.underlying38 Try.sizeOf66 rfl rfl c144 c145) _) rfl ?_
        obtain ⟨b_a146, b_n147, b_c148, w149, r150, h⟩ := h
        refine WL_val gd0 (o_append rfl rfl r150) rfl ?_
        refine WL_val gd0 ((o_fieldAddr 1 Try.underlying40 rfl Try.sizeOf38 rfl rfl (by exact e3_53)) _) rfl ?_
        obtain ⟨c152, h⟩ := h
        refine WL_act gd0 (o_store (v := .slice b_a146 b_n147 b_c148) Try.sizeOf38 rfl rfl rfl c152) ?_
        generalize hw151 : World.setCell w149 (p8.add 1) (.slice b_a146 b_n147 b_c148) = w151 at h ⊢
        try dsimp only at h
        refine WL_nil ?_
        refine nrm ?_
        refine WC_seq ?_
        refine WC_region ?_
        obtain ⟨x153, x_a154, x_n155, x_c156, hc157, h⟩ := h
        refine WL_val gd0 (o_loadAgg (vs := [.int .i64 x153, .slice x_a154 x_n155 x_c156]) Try.isAgg40 Try.sizeOf40 (by exact e3_53) hc157) rfl ?_
        obtain ⟨c159, h⟩ := h
        refine WL_act gd0 (o_storeAgg (vs := [.int .i64 x153, .slice x_a154 x_n155 x_c156]) Try.sizeOf40 (by exact e6_54) rfl rfl c159) ?_
        generalize hw158 : setAll w151 p10 0 [.int .i64 x153, .slice x_a154 x_n155 x_c156] = w158 at h ⊢
        try dsimp only at h
        refine WL_val gd0 ((o_assign (v := .int .i64 0) rfl) _) rfl ?_
        refine WL_nil ?_
        refine nrm ?_
        refine WC_ret ?_
        refine rtE ?_
        obtain ⟨r160, r_a161, r_n162, r_c163, hc164, h⟩ := h
        exact gvC1 (vs := [.int .i64 r160, .slice r_a161 r_n162 r_c163]) rfl Try.isAgg40 Try.sizeOf40 (by exact e6_54) hc164 rfl h

def F18_j1 (p6 : Addr) (p8 : Addr) (r16 : Int) (r17 : Bool) (w22 : World) (k : Value → World → Prop) : Prop :=
  ∃ (x23 : Int) (x_a24 : Option Addr) (x_n25 x_c26 : Nat), Cells w22 p6 0 [.int .i64 x23, .slice x_a24 x_n25 x_c26] ∧ PutAll w22 p8 [.int .i64 x23, .slice x_a24 x_n25 x_c26] (fun w28 => ∃ (r30 : Int) (r_a31 : Option Addr) (r_n32 r_c33 : Nat), Cells w28 p8 0 [.int .i64 r30, .slice r_a31 r_n32 r_c33] ∧ k (.tuple #[.agg #[.int .i64 r30, .slice r_a31 r_n32 r_c33], .int .i64 r16, .bool r17]) w28)
/-- spacecraft spacecraftref08.Pop -/
def F18 (q1 : Int) (q_a2 : Option Addr) (q_n3 : Nat) (q_c4 : Nat) (w5 : World) (k : Value → World → Prop) : Prop :=
  New w5 40 [.int .i64 q1, .slice q_a2 q_n3 q_c4] (fun p6 w7 => New w7 40 [.int .i64 0, .slice none 0 0] (fun p8 w9 => ∃ (x10 : Int) (x_a11 : Option Addr) (x_n12 x_c13 : Nat), Cells w9 p6 0 [.int .i64 x10, .slice x_a11 x_n12 x_c13] ∧ Does Try.prog 22 #[.agg #[.int .i64 x10, .slice x_a11 x_n12 x_c13]] w9 (fun v w15 => ∃ (r16 : Int) (r17 : Bool), v = .tuple #[.int .i64 r16, .bool r17] ∧ if r17 = true then
  ∃ (x36 : Int) (x_a37 : Option Addr) (x_n38 x_c39 : Nat), Cells w15 p6 0 [.int .i64 x36, .slice x_a37 x_n38 x_c39] ∧ Does Try.prog 19 #[.agg #[.int .i64 x36, .slice x_a37 x_n38 x_c39], .int .i64 r16] w15 (fun v w41 => ∃ (r42 : Int) (r_a43 : Option Addr) (r_n44 r_c45 : Nat) (r46 : Bool), v = .tuple #[.agg #[.int .i64 r42, .slice r_a43 r_n44 r_c45], .bool r46] ∧ PutAll w41 p6 [.int .i64 r42, .slice r_a43 r_n44 r_c45] (fun w47 => F18_j1 p6 p8 r16 r17 w47 k))
else
  F18_j1 p6 p8 r16 r17 w15 k)))
set_option maxRecDepth 100000 in
set_option maxHeartbeats 2000000 in
theorem w18 (q1 : Int) (q_a2 : Option Addr) (q_n3 : Nat) (q_c4 : Nat) (w5 : World) (k : Value → World → Prop) (h : F18 q1 q_a2 q_n3 q_c4 w5 k) : Does Try.prog 18 #[.agg #[.int .i64 q1, .slice q_a2 q_n3 q_c4]] w5 k := by
  refine enter 22 Try.func18 rfl rfl rfl ?_
  intro ρ hρ
  have e0 := hρ 0 _ rfl
  unfold F18 at h
  refine WC_seq ?_
  refine WC_region ?_
  have h := New.out h
  refine WL_val gd0 (o_box (v := .agg #[.int .i64 q1, .slice q_a2 q_n3 q_c4]) (cs := [.int .i64 q1, .slice q_a2 q_n3 q_c4]) (by exact e0) rfl) rfl ?_
  generalize hp6 : fresh w5 = p6 at h ⊢
  generalize hw7 : push w5 40 [.int .i64 q1, .slice q_a2 q_n3 q_c4] = w7 at h ⊢
  try dsimp only at h
  have h := New.out h
  refine WL_val gd0 (o_alloc (z := .agg #[.int .i64 0, .slice none 0 0]) (cs := [.int .i64 0, .slice none 0 0]) Try.zeroValue40 rfl) rfl ?_
  generalize hp8 : fresh w7 = p8 at h ⊢
  generalize hw9 : push w7 40 [.int .i64 0, .slice none 0 0] = w9 at h ⊢
  try dsimp only at h
  refine WL_val gd0 ((o_assign (v := .int .i64 0) rfl) _) rfl ?_
  refine WL_val gd0 ((o_assign (v := .bool false) rfl) _) rfl ?_
  refine WL_nil ?_
  refine nrm ?_
  refine WC_seq ?_
  refine WC_region ?_
  obtain ⟨x10, x_a11, x_n12, x_c13, hc14, h⟩ := h
  refine WL_val gd0 (o_loadAgg (vs := [.int .i64 x10, .slice x_a11 x_n12 x_c13]) Try.isAgg40 Try.sizeOf40 rfl hc14) rfl ?_
  refine WL_call gd0 (o_call Try.call22 (argCons rfl argNil) _) rfl (h.mono ?_)
  rintro _ w15 ⟨r16, r17, rfl, h⟩
  refine WL_val gd0 ((o_move (v := .tuple #[.int .i64 r16, .bool r17]) rfl) _) rfl ?_
  refine WL_val gd0 ((o_extract (vs := [.int .i64 r16, .bool r17]) (r := .int .i64 r16) rfl rfl) _) rfl ?_
  refine WL_val gd0 ((o_extract (vs := [.int .i64 r16, .bool r17]) (r := .bool r17) rfl rfl) _) rfl ?_
  refine WL_val gd0 ((o_assign (v := .int .i64 r16) rfl) _) rfl ?_
  refine WL_val gd0 ((o_assign (v := .bool r17) rfl) _) rfl ?_
  refine WL_nil ?_
  refine nrm ?_
  refine WC_cut (fun ρ w' => ρ 1 = .pointer (some p6) ∧ ρ 2 = .pointer (some p8) ∧ ρ 5 = .int .i64 r16 ∧ ρ 6 = .bool r17 ∧ F18_j1 p6 p8 r16 r17 w' k) ?_ ?_
  · refine WC_seq ?_
    refine WC_region ?_
    refine WL_val gd0 ((o_move (v := .bool r17) rfl) _) rfl ?_
    refine WL_nil ?_
    refine nrm ?_
    refine WC_cond (t := r17) rfl (fun hb35 => ?_) (fun hb35 => ?_)
    · rw [if_pos hb35] at h
      refine WC_region ?_
      obtain ⟨x36, x_a37, x_n38, x_c39, hc40, h⟩ := h
      refine WL_val gd0 (o_loadAgg (vs := [.int .i64 x36, .slice x_a37 x_n38 x_c39]) Try.isAgg40 Try.sizeOf40 rfl hc40) rfl ?_
      refine WL_val gd0 ((o_move (v := .int .i64 r16) rfl) _) rfl ?_
      refine WL_call gd0 (o_call Try.call19 (argCons rfl (argCons rfl argNil)) _) rfl (h.mono ?_)
      rintro _ w41 ⟨r42, r_a43, r_n44, r_c45, r46, rfl, h⟩
      refine WL_val gd0 ((o_move (v := .tuple #[.agg #[.int .i64 r42, .slice r_a43 r_n44 r_c45], .bool r46]) rfl) _) rfl ?_
      refine WL_val gd0 ((o_extract (vs := [.agg #[.int .i64 r42, .slice r_a43 r_n44 r_c45], .bool r46]) (r := .agg #[.int .i64 r42, .slice r_a43 r_n44 r_c45]) rfl rfl) _) rfl ?_
      refine WL_val gd0 ((o_extract (vs := [.agg #[.int .i64 r42, .slice r_a43 r_n44 r_c45], .bool r46]) (r := .bool r46) rfl rfl) _) rfl ?_
      obtain ⟨c48, h⟩ := h
      refine WL_act gd0 (o_storeAgg (vs := [.int .i64 r42, .slice r_a43 r_n44 r_c45]) Try.sizeOf40 rfl rfl rfl c48) ?_
      generalize hw47 : setAll w41 p6 0 [.int .i64 r42, .slice r_a43 r_n44 r_c45] = w47 at h ⊢
      try dsimp only at h
      refine WL_nil ?_
      refine nrm ?_
      exact ⟨rfl, rfl, rfl, rfl, h⟩
    · rw [if_neg (neT hb35)] at h
      refine WC_skip ?_
      refine nrm ?_
      exact ⟨rfl, rfl, rfl, rfl, h⟩
  · rintro ρ w22 ⟨e1_18, e2_19, e5_20, e6_21, h⟩
    unfold F18_j1 at h
    refine WC_seq ?_
    refine WC_region ?_
    obtain ⟨x23, x_a24, x_n25, x_c26, hc27, h⟩ := h
    refine WL_val gd0 (o_loadAgg (vs := [.int .i64 x23, .slice x_a24 x_n25 x_c26]) Try.isAgg40 Try.sizeOf40 (by exact e1_18) hc27) rfl ?_
    refine WL_val gd0 ((o_move (v := .int .i64 r16) (by exact e5_20)) _) rfl ?_
    refine WL_val gd0 ((o_move (v := .bool r17) (by exact e6_21)) _) rfl ?_
    obtain ⟨c29, h⟩ := h
    refine WL_act gd0 (o_storeAgg (vs := [.int .i64 x23, .slice x_a24 x_n25 x_c26]) Try.sizeOf40 (by exact e2_19) rfl rfl c29) ?_
    generalize hw28 : setAll w22 p8 0 [.int .i64 x23, .slice x_a24 x_n25 x_c26] = w28 at h ⊢
    try dsimp only at h
    refine WL_val gd0 ((o_assign (v := .int .i64 r16) rfl) _) rfl ?_
    refine WL_val gd0 ((o_assign (v := .bool r17) rfl) _) rfl ?_
    refine WL_nil ?_
    refine nrm ?_
    refine WC_ret ?_
    refine rtE ?_
    obtain ⟨r30, r_a31, r_n32, r_c33, hc34, h⟩ := h
    exact gvC2 (vs := [.int .i64 r30, .slice r_a31 r_n32 r_c33]) rfl Try.isAgg40 Try.sizeOf40 (by exact e2_19) hc34 rfl rfl h

/-- spacecraft spacecraftref08.Remove -/
def F19 (q1 : Int) (q_a2 : Option Addr) (q_n3 : Nat) (q_c4 : Nat) (item5 : Int) (w6 : World) (k : Value → World → Prop) : Prop :=
  New w6 40 [.int .i64 q1, .slice q_a2 q_n3 q_c4] (fun p7 w8 => New w8 40 [.int .i64 0, .slice none 0 0] (fun p9 w10 => ∃ (x11 : Int) (x_a12 : Option Addr) (x_n13 x_c14 : Nat), Cells w10 p7 0 [.int .i64 x11, .slice x_a12 x_n13 x_c14] ∧ Does Try.prog 29 #[.agg #[.int .i64 x11, .slice x_a12 x_n13 x_c14], .int .i64 item5] w10 (fun v w16 => ∃ (at17 : Int), v = .int .i64 at17 ∧ if at17 < 0 then
  ∃ (x19 : Int) (x_a20 : Option Addr) (x_n21 x_c22 : Nat), Cells w16 p7 0 [.int .i64 x19, .slice x_a20 x_n21 x_c22] ∧ PutAll w16 p9 [.int .i64 x19, .slice x_a20 x_n21 x_c22] (fun w24 => ∃ (r26 : Int) (r_a27 : Option Addr) (r_n28 r_c29 : Nat), Cells w24 p9 0 [.int .i64 r26, .slice r_a27 r_n28 r_c29] ∧ k (.tuple #[.agg #[.int .i64 r26, .slice r_a27 r_n28 r_c29], .bool false]) w24)
else
  ∃ (x_a31 : Option Addr) (x_n32 x_c33 : Nat), w16.drew.cell? (p7.add 1) = some (.slice x_a31 x_n32 x_c33) ∧ (0 : Int) ≤ at17 ∧ at17 ≤ (x_c33 : Int) ∧ ∃ (x_a37 : Option Addr) (x_n38 x_c39 : Nat), w16.drew.cell? (p7.add 1) = some (.slice x_a37 x_n38 x_c39) ∧ (0 : Int) ≤ IntKind.i64.wrap (at17 + 1) ∧ IntKind.i64.wrap (at17 + 1) ≤ (x_n38 : Int) ∧ New w16.drew 66 [] (fun p43 w44 => w44.cell? (p7.add 1) = some (.slice x_a31 x_n32 x_c33) ∧ w44.cell? (p7.add 1) = some (.slice x_a37 x_n38 x_c39) ∧ ∃ (b_a47 : Option Addr) (b_n48 b_c49 : Nat) (w50 : World), (Builtin.append_ #[38, 38] 38 #[.slice (some p43) 0 0, .slice x_a31 at17.toNat x_c33]).run Try.prog w44 = .ok (.slice b_a47 b_n48 b_c49) w50 ∧ w50.cell? (p7.add 1) = some (.slice x_a37 x_n38 x_c39) ∧ ∃ (b_a53 : Option Addr) (b_n54 b_c55 : Nat) (w56 : World), (Builtin.append_ #[38, 38] 38 #[.slice b_a47 b_n48 b_c49, .slice (cutA x_a37 x_c39 ((IntKind.i64.wrap (at17 + 1)).toNat) 2) (x_n38 - (IntKind.i64.wrap (at17 + 1)).toNat) (x_c39 - (IntKind.i64.wrap (at17 + 1)).toNat)]).run Try.prog w50 = .ok (.slice b_a53 b_n54 b_c55) w56 ∧ Put w56 (p7.add 1) (.slice b_a53 b_n54 b_c55) (fun w58 => ∃ (x60 : Int) (x_a61 : Option Addr) (x_n62 x_c63 : Nat), Cells w58 p7 0 [.int .i64 x60, .slice x_a61 x_n62 x_c63] ∧ PutAll w58 p9 [.int .i64 x60, .slice x_a61 x_n62 x_c63] (fun w65 => ∃ (r67 : Int) (r_a68 : Option Addr) (r_n69 r_c70 : Nat), Cells w65 p9 0 [.int .i64 r67, .slice r_a68 r_n69 r_c70] ∧ k (.tuple #[.agg #[.int .i64 r67, .slice r_a68 r_n69 r_c70], .bool true]) w65))))))
set_option maxRecDepth 100000 in
set_option maxHeartbeats 2000000 in
theorem w19 (q1 : Int) (q_a2 : Option Addr) (q_n3 : Nat) (q_c4 : Nat) (item5 : Int) (w6 : World) (k : Value → World → Prop) (h : F19 q1 q_a2 q_n3 q_c4 item5 w6 k) : Does Try.prog 19 #[.agg #[.int .i64 q1, .slice q_a2 q_n3 q_c4], .int .i64 item5] w6 k := by
  refine enter 27 Try.func19 rfl rfl rfl ?_
  intro ρ hρ
  have e0 := hρ 0 _ rfl
  have e1 := hρ 1 _ rfl
  unfold F19 at h
  refine WC_seq ?_
  refine WC_region ?_
  have h := New.out h
  refine WL_val gd0 (o_box (v := .agg #[.int .i64 q1, .slice q_a2 q_n3 q_c4]) (cs := [.int .i64 q1, .slice q_a2 q_n3 q_c4]) (by exact e0) rfl) rfl ?_
  generalize hp7 : fresh w6 = p7 at h ⊢
  generalize hw8 : push w6 40 [.int .i64 q1, .slice q_a2 q_n3 q_c4] = w8 at h ⊢
  try dsimp only at h
  have h := New.out h
  refine WL_val gd0 (o_alloc (z := .agg #[.int .i64 0, .slice none 0 0]) (cs := [.int .i64 0, .slice none 0 0]) Try.zeroValue40 rfl) rfl ?_
  generalize hp9 : fresh w8 = p9 at h ⊢
  generalize hw10 : push w8 40 [.int .i64 0, .slice none 0 0] = w10 at h ⊢
  try dsimp only at h
  refine WL_val gd0 ((o_assign (v := .bool false) rfl) _) rfl ?_
  refine WL_nil ?_
  refine nrm ?_
  refine WC_seq ?_
  refine WC_region ?_
  obtain ⟨x11, x_a12, x_n13, x_c14, hc15, h⟩ := h
  refine WL_val gd0 (o_loadAgg (vs := [.int .i64 x11, .slice x_a12 x_n13 x_c14]) Try.isAgg40 Try.sizeOf40 rfl hc15) rfl ?_
  refine WL_val gd0 ((o_move (v := .int .i64 item5) (by exact e1)) _) rfl ?_
  refine WL_call gd0 (o_call Try.call29 (argCons rfl (argCons rfl argNil)) _) rfl (h.mono ?_)
  rintro _ w16 ⟨at17, rfl, h⟩
  refine WL_val gd0 ((o_assign (v := .int .i64 at17) rfl) _) rfl ?_
  refine WL_nil ?_
  refine nrm ?_
  refine WC_seq ?_
  refine WC_seq ?_
  refine WC_region ?_
  refine WL_val gd0 ((o_move (v := .int .i64 at17) rfl) _) rfl ?_
  refine WL_val gd0 ((o_lss rfl rfl) _) rfl ?_
  refine WL_nil ?_
  refine nrm ?_
  refine WC_cond (t := (decide (at17 < 0))) rfl (fun hb18 => ?_) (fun hb18 => ?_)
  · rw [if_pos (of_decide_eq_true hb18)] at h
    refine WC_seq ?_
    refine WC_region ?_
    obtain ⟨x19, x_a20, x_n21, x_c22, hc23, h⟩ := h
    refine WL_val gd0 (o_loadAgg (vs := [.int .i64 x19, .slice x_a20 x_n21 x_c22]) Try.isAgg40 Try.sizeOf40 rfl hc23) rfl ?_
    obtain ⟨c25, h⟩ := h
    refine WL_act gd0 (o_storeAgg (vs := [.int .i64 x19, .slice x_a20 x_n21 x_c22]) Try.sizeOf40 rfl rfl rfl c25) ?_
    generalize hw24 : setAll w16 p9 0 [.int .i64 x19, .slice x_a20 x_n21 x_c22] = w24 at h ⊢
    try dsimp only at h
    refine WL_val gd0 ((o_assign (v := .bool false) rfl) _) rfl ?_
    refine WL_nil ?_
    refine nrm ?_
    refine WC_ret ?_
    refine rtT ?_
    refine rtE ?_
    obtain ⟨r26, r_a27, r_n28, r_c29, hc30, h⟩ := h
    exact gvC1 (vs := [.int .i64 r26, .slice r_a27 r_n28 r_c29]) rfl Try.isAgg40 Try.sizeOf40 rfl hc30 rfl h
  · rw [if_neg (of_decide_eq_false hb18)] at h
    refine WC_skip ?_
    refine nrm ?_
    refine WC_seq ?_
    refine WC_draws [0, 5, 11, 13] (.look 1 (.look 2 (.look 3 (.look 4 (.look 6 (.look 7 (.look 8 (.look 9 (.look 10 (.act 0 (.act 5 (.act 11 (.look 12 (.act 13 .nil)))))))))))))) Try.mixed (by kernel_rfl) ?_
    refine WQ_val rfl gd0 (o_fieldAddr 1 Try.underlying40 rfl Try.sizeOf38 rfl rfl rfl) rfl ?_
    obtain ⟨x_a31, x_n32, x_c33, hc34, h⟩ := h
    refine WQ_look (fun w => w.cell? (p7.add 1) = some (.slice x_a31 x_n32 x_c33)) rfl gd0 (fun w hc => (o_load Try.isAgg38 rfl hc)) hc34 rfl ?_
    refine WQ_val rfl gd0 (o_move (v := .int .i64 at17) rfl) rfl ?_
    obtain ⟨c35, c36, h⟩ := h
    refine WQ_val rfl gd0 (o_sliceH Try.underlying38 Try.sizeOf66 rfl rfl c35 c36) rfl ?_
    refine WQ_val rfl gd0 (o_fieldAddr 1 Try.underlying40 rfl Try.sizeOf38 rfl rfl rfl) rfl ?_
    obtain ⟨x_a37, x_n38, x_c39, hc40, h⟩ := h
    refine WQ_look (fun w => w.cell? (p7.add 1) = some (.slice x_a37 x_n38 x_c39)) rfl gd0 (fun w hc => (o_load Try.isAgg38 rfl hc)) hc40 rfl ?_
    refine WQ_val rfl gd0 (o_move (v := .int .i64 at17) rfl) rfl ?_
    refine WQ_val rfl gd0 (o_add rfl rfl) rfl ?_
    obtain ⟨c41, c42, h⟩ := h
    refine WQ_val rfl gd0 (o_sliceL Try.underlying38 Try.sizeOf66 rfl rfl c41 c42) rfl ?_
    have h := New.out h
    obtain ⟨hh45, hh46, h⟩ := h
    refine WQ_act rfl gd0 (o_buildSlice (e := 66) (ps := []) (cs := []) partNil (fun w => by kernel_rfl)) rfl (by exact ⟨⟨trivial, fun _ => hh45⟩, fun _ => hh46⟩) ?_
    generalize hp43 : fresh w16.drew = p43 at h ⊢
    generalize hw44 : push w16.drew 66 [] = w44 at h ⊢
    try dsimp only at h
    obtain ⟨b_a47, b_n48, b_c49, w50, r51, h⟩ := h
    obtain ⟨hh52, h⟩ := h
    refine WQ_act rfl gd0 (o_append rfl rfl r51) rfl (by exact ⟨⟨trivial, depT (by kernel_rfl)⟩, fun _ => hh52⟩) ?_
    obtain ⟨b_a53, b_n54, b_c55, w56, r57, h⟩ := h
    refine WQ_act rfl gd0 (o_append rfl rfl r57) rfl (by exact ⟨⟨trivial, depT (by kernel_rfl)⟩, depT (by kernel_rfl)⟩) ?_
    refine WQ_val rfl gd0 (o_fieldAddr 1 Try.underlying40 rfl Try.sizeOf38 rfl rfl rfl) rfl ?_
    obtain ⟨c59, h⟩ := h
    refine WQ_do rfl gd0 (o_store (v := .slice b_a53 b_n54 b_c55) Try.sizeOf38 rfl rfl rfl c59) (by exact ⟨⟨trivial, depT (by kernel_rfl)⟩, depT (by kernel_rfl)⟩) ?_
    generalize hw58 : World.setCell w56 (p7.add 1) (.slice b_a53 b_n54 b_c55) = w58 at h ⊢
    try dsimp only at h
    refine WQ_nil ?_
    refine nrm ?_
    refine WC_seq ?_
    refine WC_region ?_
    obtain ⟨x60, x_a61, x_n62, x_c63, hc64, h⟩ := h
    refine WL_val gd0 (o_loadAgg (vs := [.int .i64 x60, .slice x_a61 x_n62 x_c63]) Try.isAgg40 Try.sizeOf40 rfl hc64) rfl ?_
    obtain ⟨c66, h⟩ := h
    refine WL_act gd0 (o_storeAgg (vs := [.int .i64 x60, .slice x_a61 x_n62 x_c63]) Try.sizeOf40 rfl rfl rfl c66) ?_
    generalize hw65 : setAll w58 p9 0 [.int .i64 x60, .slice x_a61 x_n62 x_c63] = w65 at h ⊢
    try dsimp only at h
    refine WL_val gd0 ((o_assign (v := .bool true) rfl) _) rfl ?_
    refine WL_nil ?_
    refine nrm ?_
    refine WC_ret ?_
    refine rtE ?_
    obtain ⟨r67, r_a68, r_n69, r_c70, hc71, h⟩ := h
    exact gvC1 (vs := [.int .i64 r67, .slice r_a68 r_n69 r_c70]) rfl Try.isAgg40 Try.sizeOf40 rfl hc71 rfl h

/-- (*spacecraft queue.Queue).Clone -/
def F20 (q1 : Option Addr) (w2 : World) (k : Value → World → Prop) : Prop :=
  Does Try.prog 24 #[.pointer q1] w2 (fun v w3 => ∃ (x4 : Bool), v = .bool x4 ∧ if (!x4) = true then
  k (.pointer none) w3
else
  ∃ (p6 : Addr), q1 = some p6 ∧ ∃ (x8 : Int), w3.drew.cell? (p6.add 1) = some (.int .i64 x8) ∧ ∃ (x_a10 : Option Addr) (x_n11 x_c12 : Nat), w3.drew.cell? (p6.add 2) = some (.slice x_a10 x_n11 x_c12) ∧ Does Try.prog 30 #[.slice x_a10 x_n11 x_c12] w3.drew (fun v w14 => ∃ (x_a15 : Option Addr) (x_n16 x_c17 : Nat), v = .slice x_a15 x_n16 x_c17 ∧ w14.cell? (p6.add 1) = some (.int .i64 x8) ∧ New w14 56 [.bool true, .int .i64 x8, .slice x_a15 x_n16 x_c17] (fun p19 w20 => k (.pointer (some p19)) w20)))
set_option maxRecDepth 100000 in
set_option maxHeartbeats 2000000 in
theorem w20 (q1 : Option Addr) (w2 : World) (k : Value → World → Prop) (h : F20 q1 w2 k) : Does Try.prog 20 #[.pointer q1] w2 k := by
  refine enter 17 Try.func20 rfl rfl rfl ?_
  intro ρ hρ
  have e0 := hρ 0 _ rfl
  unfold F20 at h
  refine WC_seq ?_
  refine WC_region ?_
  refine WL_val gd0 ((o_assign (v := .pointer none) rfl) _) rfl ?_
  refine WL_nil ?_
  refine nrm ?_
  refine WC_seq ?_
  refine WC_seq ?_
  refine WC_region ?_
  refine WL_val gd0 ((o_move (v := .pointer q1) (by exact e0)) _) rfl ?_
  refine WL_call gd0 (o_call Try.call24 (argCons rfl argNil) _) rfl (h.mono ?_)
  rintro _ w3 ⟨x4, rfl, h⟩
  refine WL_val gd0 ((o_not rfl) _) rfl ?_
  refine WL_nil ?_
  refine nrm ?_
  refine WC_cond (t := (!x4)) rfl (fun hb5 => ?_) (fun hb5 => ?_)
  · rw [if_pos hb5] at h
    refine WC_seq ?_
    refine WC_region ?_
    refine WL_val gd0 ((o_assign (v := .pointer none) rfl) _) rfl ?_
    refine WL_nil ?_
    refine nrm ?_
    refine WC_ret ?_
    refine rtT ?_
    refine rtE ?_
    exact gv1 rfl rfl h
  · rw [if_neg (neT hb5)] at h
    refine WC_skip ?_
    refine nrm ?_
    refine WC_seq ?_
    refine WC_draws [8, 10] (.look 0 (.look 1 (.look 2 (.look 3 (.look 4 (.look 5 (.look 6 (.look 7 (.act 8 (.look 9 (.act 10 (.look 11 .nil)))))))))))) Try.mixed (by kernel_rfl) ?_
    refine WQ_val rfl gd0 (o_move (v := .pointer q1) (by exact e0)) rfl ?_
    obtain ⟨p6, q7, h⟩ := h
    refine WQ_val rfl gd0 (o_nilCheck (by exact (congrArg Value.pointer q7))) rfl ?_
    refine WQ_val rfl gd0 (o_fieldAddr 1 Try.underlying56 rfl Try.sizeOf3 rfl rfl rfl) rfl ?_
    obtain ⟨x8, hc9, h⟩ := h
    refine WQ_look (fun w => w.cell? (p6.add 1) = some (.int .i64 x8)) rfl gd0 (fun w hc => (o_load Try.isAgg3 rfl hc)) hc9 rfl ?_
    refine WQ_val rfl gd0 (o_move (v := .pointer q1) (by exact e0)) rfl ?_
    refine WQ_val rfl gd0 (o_nilCheck (by exact (congrArg Value.pointer q7))) rfl ?_
    refine WQ_val rfl gd0 (o_fieldAddr 2 Try.underlying56 rfl Try.sizeOf54 rfl rfl rfl) rfl ?_
    obtain ⟨x_a10, x_n11, x_c12, hc13, h⟩ := h
    refine WQ_look (fun w => w.cell? (p6.add 2) = some (.slice x_a10 x_n11 x_c12)) rfl gd0 (fun w hc => (o_load Try.isAgg54 rfl hc)) hc13 rfl ?_
    refine WQ_call rfl gd0 (o_call Try.call30 (argCons rfl argNil) _) rfl (h.mono ?_)
    rintro _ w14 ⟨x_a15, x_n16, x_c17, rfl, hh18, h⟩
    refine ⟨⟨⟨trivial, fun _ => hh18⟩, depT (by kernel_rfl)⟩, ?_⟩
    refine WQ_val rfl gd0 (o_build (ps := [(0, .bool true), (1, .int .i64 x8), (2, .slice x_a15 x_n16 x_c17)]) (v := .agg #[.bool true, .int .i64 x8, .slice x_a15 x_n16 x_c17]) (partCons rfl (partCons rfl (partCons rfl partNil))) (fun w => by kernel_rfl)) rfl ?_
    have h := New.out h
    refine WQ_act rfl gd0 (o_box (v := .agg #[.bool true, .int .i64 x8, .slice x_a15 x_n16 x_c17]) (cs := [.bool true, .int .i64 x8, .slice x_a15 x_n16 x_c17]) rfl rfl) rfl (by exact ⟨⟨trivial, depT (by kernel_rfl)⟩, depT (by kernel_rfl)⟩) ?_
    generalize hp19 : fresh w14 = p19 at h ⊢
    generalize hw20 : push w14 56 [.bool true, .int .i64 x8, .slice x_a15 x_n16 x_c17] = w20 at h ⊢
    try dsimp only at h
    refine WQ_val rfl gd0 (o_assign (v := .pointer (some p19)) rfl) rfl ?_
    refine WQ_nil ?_
    refine nrm ?_
    refine WC_ret ?_
    refine rtE ?_
    exact gv1 rfl rfl h

def F21_j1 (q1 : Option Addr) (t5 : Bool) (w6 : World) (k : Value → World → Prop) : Prop :=
  if t5 = true then
  k (.tuple #[.int .i64 0, .bool false]) w6
else
  ∃ (p8 : Addr), q1 = some p8 ∧ ∃ (x_a10 : Option Addr) (x_n11 x_c12 : Nat), w6.cell? (p8.add 2) = some (.slice x_a10 x_n11 x_c12) ∧ ∃ (p16 : Addr), x_a10 = some p16 ∧ (0 : Int) ≤ 0 ∧ 0 < (x_n11 : Int) ∧ ∃ (t18 : Int), w6.cell? ((p16.add (((0 : Int).toNat) * 2)).add 1) = some (.int .i64 t18) ∧ k (.tuple #[.int .i64 t18, .bool true]) w6
/-- (*spacecraft queue.Queue).Peek -/
def F21 (q1 : Option Addr) (w2 : World) (k : Value → World → Prop) : Prop :=
  Does Try.prog 24 #[.pointer q1] w2 (fun v w20 => ∃ (x21 : Bool), v = .bool x21 ∧ if (!x21) = true then
  F21_j1 q1 true w20 k
else
  ∃ (p23 : Addr), q1 = some p23 ∧ ∃ (x_a25 : Option Addr) (x_n26 x_c27 : Nat), w20.cell? (p23.add 2) = some (.slice x_a25 x_n26 x_c27) ∧ F21_j1 q1 (decide ((x_n26 : Int) = 0)) w20 k)
set_option maxRecDepth 100000 in
set_option maxHeartbeats 2000000 in
theorem w21 (q1 : Option Addr) (w2 : World) (k : Value → World → Prop) (h : F21 q1 w2 k) : Does Try.prog 21 #[.pointer q1] w2 k := by
  refine enter 22 Try.func21 rfl rfl rfl ?_
  intro ρ hρ
  have e0 := hρ 0 _ rfl
  unfold F21 at h
  refine WC_seq ?_
  refine WC_region ?_
  refine WL_val gd0 ((o_assign (v := .int .i64 0) rfl) _) rfl ?_
  refine WL_val gd0 ((o_assign (v := .bool false) rfl) _) rfl ?_
  refine WL_nil ?_
  refine nrm ?_
  refine WC_seq ?_
  refine WC_cut (fun ρ w' => ∃ (t5 : Bool), ρ 14 = .bool t5 ∧ ρ 0 = .pointer q1 ∧ F21_j1 q1 t5 w' k) ?_ ?_
  · refine WC_region ?_
    refine WL_val gd0 ((o_move (v := .pointer q1) (by exact e0)) _) rfl ?_
    refine WL_call gd0 (o_call Try.call24 (argCons rfl argNil) _) rfl (h.mono ?_)
    rintro _ w20 ⟨x21, rfl, h⟩
    refine WL_val gd0 ((o_not rfl) _) rfl ?_
    refine WL_val gd0 ((o_move (v := .bool (!x21)) rfl) _) rfl ?_
    refine bsplit (!x21) (fun hb22 => ?_) (fun hb22 => ?_)
    · rw [if_pos hb22] at h
      refine WL_skip (gdN (b := (!x21)) 7 rfl rfl hb22) rfl ?_
      refine WL_skip (gdN (b := (!x21)) 7 rfl rfl hb22) rfl ?_
      refine WL_skip (gdN (b := (!x21)) 7 rfl rfl hb22) rfl ?_
      refine WL_skip (gdN (b := (!x21)) 7 rfl rfl hb22) rfl ?_
      refine WL_skip (gdN (b := (!x21)) 7 rfl rfl hb22) rfl ?_
      refine WL_skip (gdN (b := (!x21)) 7 rfl rfl hb22) rfl ?_
      refine WL_val gd0 ((o_pickT (v := .bool true) rfl hb22 rfl) _) rfl ?_
      refine WL_nil ?_
      refine nrm ?_
      exact ⟨_, rfl, e0, h⟩
    · rw [if_neg (neT hb22)] at h
      refine WL_val (gdY (b := (!x21)) 7 rfl rfl hb22) ((o_move (v := .pointer q1) (by exact e0)) _) rfl ?_
      obtain ⟨p23, q24, h⟩ := h
      refine WL_val (gdY (b := (!x21)) 7 rfl rfl hb22) ((o_nilCheck (by exact (congrArg Value.pointer q24))) _) rfl ?_
      refine WL_val (gdY (b := (!x21)) 7 rfl rfl hb22) ((o_fieldAddr 2 Try.underlying56 rfl Try.sizeOf54 rfl rfl rfl) _) rfl ?_
      obtain ⟨x_a25, x_n26, x_c27, hc28, h⟩ := h
      refine WL_val (gdY (b := (!x21)) 7 rfl rfl hb22) (o_load Try.isAgg54 rfl hc28) rfl ?_
      refine WL_val (gdY (b := (!x21)) 7 rfl rfl hb22) ((o_len Try.underlying54 rfl) _) rfl ?_
      refine WL_val (gdY (b := (!x21)) 7 rfl rfl hb22) ((o_eql rfl rfl) _) rfl ?_
      refine WL_val gd0 ((o_pickF (v := .bool (decide ((x_n26 : Int) = 0))) rfl hb22 rfl) _) rfl ?_
      refine WL_nil ?_
      refine nrm ?_
      exact ⟨_, rfl, e0, h⟩
  · rintro ρ w6 ⟨t5, e14_4, e0_3, h⟩
    unfold F21_j1 at h
    refine WC_cond (t := t5) (by exact e14_4) (fun hb7 => ?_) (fun hb7 => ?_)
    · rw [if_pos hb7] at h
      refine WC_seq ?_
      refine WC_region ?_
      refine WL_val gd0 ((o_assign (v := .int .i64 0) rfl) _) rfl ?_
      refine WL_val gd0 ((o_assign (v := .bool false) rfl) _) rfl ?_
      refine WL_nil ?_
      refine nrm ?_
      refine WC_ret ?_
      refine rtT ?_
      refine rtE ?_
      exact gv2 rfl rfl rfl h
    · rw [if_neg (neT hb7)] at h
      refine WC_skip ?_
      refine nrm ?_
      refine WC_seq ?_
      refine WC_region ?_
      refine WL_val gd0 ((o_move (v := .pointer q1) (by exact e0_3)) _) rfl ?_
      obtain ⟨p8, q9, h⟩ := h
      refine WL_val gd0 ((o_nilCheck (by exact (congrArg Value.pointer q9))) _) rfl ?_
      refine WL_val gd0 ((o_fieldAddr 2 Try.underlying56 rfl Try.sizeOf54 rfl rfl rfl) _) rfl ?_
      obtain ⟨x_a10, x_n11, x_c12, hc13, h⟩ := h
      refine WL_val gd0 (o_load Try.isAgg54 rfl hc13) rfl ?_
      obtain ⟨p16, q17, h⟩ := h
      obtain ⟨l14, u15, h⟩ := h
      refine WL_val gd0 ((o_indexAddr Try.underlying54 Try.sizeOf61 (by exact (congrArg (fun z => Value.slice z x_n11 x_c12) q17)) rfl l14 u15) _) rfl ?_
      refine WL_val gd0 ((o_fieldAddr 1 Try.underlying61 rfl Try.sizeOf3 rfl rfl rfl) _) rfl ?_
      obtain ⟨t18, hc19, h⟩ := h
      refine WL_val gd0 (o_load Try.isAgg3 rfl hc19) rfl ?_
      refine WL_val gd0 ((o_assign (v := .int .i64 t18) rfl) _) rfl ?_
      refine WL_val gd0 ((o_assign (v := .bool true) rfl) _) rfl ?_
      refine WL_nil ?_
      refine nrm ?_
      refine WC_ret ?_
      refine rtE ?_
      exact gv2 rfl rfl rfl h

/-- spacecraft spacecraftref08.Peek -/
def F22 (q1 : Int) (q_a2 : Option Addr) (q_n3 : Nat) (q_c4 : Nat) (w5 : World) (k : Value → World → Prop) : Prop :=
  New w5 40 [.int .i64 q1, .slice q_a2 q_n3 q_c4] (fun p6 w7 => ∃ (x_a8 : Option Addr) (x_n9 x_c10 : Nat), w7.cell? (p6.add 1) = some (.slice x_a8 x_n9 x_c10) ∧ if (x_n9 : Int) = 0 then
  k (.tuple #[.int .i64 0, .bool false]) w7
else
  ∃ (x_a13 : Option Addr) (x_n14 x_c15 : Nat), w7.cell? (p6.add 1) = some (.slice x_a13 x_n14 x_c15) ∧ ∃ (p19 : Addr), x_a13 = some p19 ∧ (0 : Int) ≤ 0 ∧ 0 < (x_n14 : Int) ∧ ∃ (t21 : Int), w7.cell? ((p19.add (((0 : Int).toNat) * 2)).add 1) = some (.int .i64 t21) ∧ k (.tuple #[.int .i64 t21, .bool true]) w7)
set_option maxRecDepth 100000 in
set_option maxHeartbeats 2000000 in
theorem w22 (q1 : Int) (q_a2 : Option Addr) (q_n3 : Nat) (q_c4 : Nat) (w5 : World) (k : Value → World → Prop) (h : F22 q1 q_a2 q_n3 q_c4 w5 k) : Does Try.prog 22 #[.agg #[.int .i64 q1, .slice q_a2 q_n3 q_c4]] w5 k := by
  refine enter 13 Try.func22 rfl rfl rfl ?_
  intro ρ hρ
  have e0 := hρ 0 _ rfl
  unfold F22 at h
  refine WC_seq ?_
  refine WC_region ?_
  have h := New.out h
  refine WL_val gd0 (o_box (v := .agg #[.int .i64 q1, .slice q_a2 q_n3 q_c4]) (cs := [.int .i64 q1, .slice q_a2 q_n3 q_c4]) (by exact e0) rfl) rfl ?_
  generalize hp6 : fresh w5 = p6 at h ⊢
  generalize hw7 : push w5 40 [.int .i64 q1, .slice q_a2 q_n3 q_c4] = w7 at h ⊢
  try dsimp only at h
  refine WL_val gd0 ((o_assign (v := .int .i64 0) rfl) _) rfl ?_
  refine WL_val gd0 ((o_assign (v := .bool false) rfl) _) rfl ?_
  refine WL_nil ?_
  refine nrm ?_
  refine WC_seq ?_
  refine WC_seq ?_
  refine WC_region ?_
  refine WL_val gd0 ((o_fieldAddr 1 Try.underlying40 rfl Try.sizeOf38 rfl rfl rfl) _) rfl ?_
  obtain ⟨x_a8, x_n9, x_c10, hc11, h⟩ := h
  refine WL_val gd0 (o_load Try.isAgg38 rfl hc11) rfl ?_
  refine WL_val gd0 ((o_len Try.underlying38 rfl) _) rfl ?_
  refine WL_val gd0 ((o_eql rfl rfl) _) rfl ?_
  refine WL_nil ?_
  refine nrm ?_
  refine WC_cond (t := (decide ((x_n9 : Int) = 0))) rfl (fun hb12 => ?_) (fun hb12 => ?_)
  · rw [if_pos (of_decide_eq_true hb12)] at h
    refine WC_seq ?_
    refine WC_region ?_
    refine WL_val gd0 ((o_assign (v := .int .i64 0) rfl) _) rfl ?_
    refine WL_val gd0 ((o_assign (v := .bool false) rfl) _) rfl ?_
    refine WL_nil ?_
    refine nrm ?_
    refine WC_ret ?_
    refine rtT ?_
    refine rtE ?_
    exact gv2 rfl rfl rfl h
  · rw [if_neg (of_decide_eq_false hb12)] at h
    refine WC_skip ?_
    refine nrm ?_
    refine WC_seq ?_
    refine WC_region ?_
    refine WL_val gd0 ((o_fieldAddr 1 Try.underlying40 rfl Try.sizeOf38 rfl rfl rfl) _) rfl ?_
    obtain ⟨x_a13, x_n14, x_c15, hc16, h⟩ := h
    refine WL_val gd0 (o_load Try.isAgg38 rfl hc16) rfl ?_
    obtain ⟨p19, q20, h⟩ := h
    obtain ⟨l17, u18, h⟩ := h
    refine WL_val gd0 ((o_indexAddr Try.underlying38 Try.sizeOf66 (by exact (congrArg (fun z => Value.slice z x_n14 x_c15) q20)) rfl l17 u18) _) rfl ?_
    refine WL_val gd0 ((o_fieldAddr 1 Try.underlying66 rfl Try.sizeOf3 rfl rfl rfl) _) rfl ?_
    obtain ⟨t21, hc22, h⟩ := h
    refine WL_val gd0 (o_load Try.isAgg3 rfl hc22) rfl ?_
    refine WL_val gd0 ((o_assign (v := .int .i64 t21) rfl) _) rfl ?_
    refine WL_val gd0 ((o_assign (v := .bool true) rfl) _) rfl ?_
    refine WL_nil ?_
    refine nrm ?_
    refine WC_ret ?_
    refine rtE ?_
    exact gv2 rfl rfl rfl h

def F23_b1 (p6 : Addr) (out_a10 : Option Addr) (out_n11 : Nat) (out_c12 : Nat) (i14 : Int) (w15 : World) (nx15 : Option Addr → Nat → Nat → Int → World → Prop) (k : Value → World → Prop) : Prop :=
  ∃ (x_a17 : Option Addr) (x_n18 x_c19 : Nat), w15.cell? (p6.add 1) = some (.slice x_a17 x_n18 x_c19) ∧ if i14 < (x_n18 : Int) then
  ∃ (x_a22 : Option Addr) (x_n23 x_c24 : Nat), w15.cell? (p6.add 1) = some (.slice x_a22 x_n23 x_c24) ∧ ∃ (p28 : Addr), x_a22 = some p28 ∧ (0 : Int) ≤ i14 ∧ i14 < (x_n23 : Int) ∧ ∃ (x30 : Int), w15.cell? ((p28.add (i14.toNat * 2)).add 1) = some (.int .i64 x30) ∧ New w15 3 [.int .i64 x30] (fun p32 w33 => ∃ (b_a34 : Option Addr) (b_n35 b_c36 : Nat) (w37 : World), (Builtin.append_ #[22, 22] 22 #[.slice out_a10 out_n11 out_c12, .slice (some p32) 1 1]).run Try.prog w33 = .ok (.slice b_a34 b_n35 b_c36) w37 ∧ nx15 b_a34 b_n35 b_c36 (IntKind.i64.wrap (i14 + 1)) w37)
else
  k (.slice out_a10 out_n11 out_c12) w15
/-- spacecraft spacecraftref08.Items -/
def F23 (q1 : Int) (q_a2 : Option Addr) (q_n3 : Nat) (q_c4 : Nat) (w5 : World) (k : Value → World → Prop) : Prop :=
  New w5 40 [.int .i64 q1, .slice q_a2 q_n3 q_c4] (fun p6 w7 => LoopP (fun (s : Option Addr × Nat × Nat × Int) w' nx' => F23_b1 p6 (s.1) (s.2.1) (s.2.2.1) (s.2.2.2) w' (fun x0 x1 x2 x3 w => nx' (x0, x1, x2, x3) w) k) (none, 0, 0, 0) w7)
set_option maxRecDepth 100000 in
set_option maxHeartbeats 2000000 in
theorem w23 (q1 : Int) (q_a2 : Option Addr) (q_n3 : Nat) (q_c4 : Nat) (w5 : World) (k : Value → World → Prop) (h : F23 q1 q_a2 q_n3 q_c4 w5 k) : Does Try.prog 23 #[.agg #[.int .i64 q1, .slice q_a2 q_n3 q_c4]] w5 k := by
  refine enter 22 Try.func23 rfl rfl rfl ?_
  intro ρ hρ
  have e0 := hρ 0 _ rfl
  unfold F23 at h
  refine WC_seq ?_
  refine WC_region ?_
  have h := New.out h
  refine WL_val gd0 (o_box (v := .agg #[.int .i64 q1, .slice q_a2 q_n3 q_c4]) (cs := [.int .i64 q1, .slice q_a2 q_n3 q_c4]) (by exact e0) rfl) rfl ?_
  generalize hp6 : fresh w5 = p6 at h ⊢
  generalize hw7 : push w5 40 [.int .i64 q1, .slice q_a2 q_n3 q_c4] = w7 at h ⊢
  try dsimp only at h
  refine WL_val gd0 ((o_assign (v := .slice none 0 0) rfl) _) rfl ?_
  refine WL_nil ?_
  refine nrm ?_
  refine WC_seq ?_
  refine WC_region ?_
  refine WL_val gd0 ((o_assign (v := .slice none 0 0) rfl) _) rfl ?_
  refine WL_nil ?_
  refine nrm ?_
  refine WC_seq ?_
  refine WC_seq ?_
  refine WC_region ?_
  refine WL_val gd0 ((o_assign (v := .int .i64 0) rfl) _) rfl ?_
  refine WL_nil ?_
  refine nrm ?_
  refine WC_block ?_
  obtain ⟨J15, ⟨n15, h0⟩, hr15⟩ := h
  refine WC_loop (fun n ρ w' => ∃ (out_a10 : Option Addr) (out_n11 out_c12 : Nat) (i14 : Int), ρ 3 = .slice out_a10 out_n11 out_c12 ∧ ρ 4 = .int .i64 i14 ∧ ρ 1 = .pointer (some p6) ∧ J15 n (out_a10, out_n11, out_c12, i14) w') ⟨n15, _, _, _, _, rfl, rfl, rfl, h0⟩ ?_
  rintro n15 ρ w15 ⟨out_a10, out_n11, out_c12, i14, e3_9, e4_13, e1_8, h⟩
  have h : F23_b1 p6 out_a10 out_n11 out_c12 i14 w15 (fun x0 x1 x2 x3 w => ∃ m, m < n15 ∧ J15 m (x0, x1, x2, x3) w) k := hr15 n15 (out_a10, out_n11, out_c12, i14) w15 h
  unfold F23_b1 at h
  refine WC_seq ?_
  refine WC_seq ?_
  refine WC_region ?_
  refine WL_val gd0 ((o_move (v := .int .i64 i14) (by exact e4_13)) _) rfl ?_
  refine WL_val gd0 ((o_fieldAddr 1 Try.underlying40 rfl Try.sizeOf38 rfl rfl (by exact e1_8)) _) rfl ?_
  obtain ⟨x_a17, x_n18, x_c19, hc20, h⟩ := h
  refine WL_val gd0 (o_load Try.isAgg38 rfl hc20) rfl ?_
  refine WL_val gd0 ((o_len Try.underlying38 rfl) _) rfl ?_
  refine WL_val gd0 ((o_lss rfl rfl) _) rfl ?_
  refine WL_nil ?_
  refine nrm ?_
  refine WC_cond (t := (decide (i14 < (x_n18 : Int)))) rfl (fun hb21 => ?_) (fun hb21 => ?_)
  · rw [if_pos (of_decide_eq_true hb21)] at h
    refine WC_skip ?_
    refine nrm ?_
    refine WC_seq ?_
    refine WC_block ?_
    refine WC_region ?_
    refine WL_val gd0 ((o_move (v := .slice out_a10 out_n11 out_c12) (by exact e3_9)) _) rfl ?_
    refine WL_val gd0 ((o_fieldAddr 1 Try.underlying40 rfl Try.sizeOf38 rfl rfl (by exact e1_8)) _) rfl ?_
    obtain ⟨x_a22, x_n23, x_c24, hc25, h⟩ := h
    refine WL_val gd0 (o_load Try.isAgg38 rfl hc25) rfl ?_
    refine WL_val gd0 ((o_move (v := .int .i64 i14) (by exact e4_13)) _) rfl ?_
    obtain ⟨p28, q29, h⟩ := h
    obtain ⟨l26, u27, h⟩ := h
    refine WL_val gd0 ((o_indexAddr Try.underlying38 Try.sizeOf66 (by exact (congrArg (fun z => Value.slice z x_n23 x_c24) q29)) rfl l26 u27) _) rfl ?_
    refine WL_val gd0 ((o_fieldAddr 1 Try.underlying66 rfl Try.sizeOf3 rfl rfl rfl) _) rfl ?_
    obtain ⟨x30, hc31, h⟩ := h
    refine WL_val gd0 (o_load Try.isAgg3 rfl hc31) rfl ?_
    have h := New.out h
    refine WL_val gd0 (o_buildSlice (e := 3) (ps := [(0, .int .i64 x30)]) (cs := [.int .i64 x30]) (partCons rfl partNil) (fun w => by kernel_rfl)) rfl ?_
    generalize hp32 : fresh w15 = p32 at h ⊢
    generalize hw33 : push w15 3 [.int .i64 x30] = w33 at h ⊢
    try dsimp only at h
    obtain ⟨b_a34, b_n35, b_c36, w37, r38, h⟩ := h
    refine WL_val gd0 (o_append rfl rfl r38) rfl ?_
    refine WL_val gd0 ((o_assign (v := .slice b_a34 b_n35 b_c36) rfl) _) rfl ?_
    refine WL_nil ?_
    refine nrmB ?_
    refine nrm ?_
    refine WC_region ?_
    refine WL_val gd0 ((o_move (v := .int .i64 i14) (by exact e4_13)) _) rfl ?_
    refine WL_val gd0 ((o_add rfl rfl) _) rfl ?_
    refine WL_val gd0 ((o_assign (v := .int .i64 (IntKind.i64.wrap (i14 + 1))) rfl) _) rfl ?_
    refine WL_nil ?_
    refine nrm ?_
    obtain ⟨m16, hm16, h⟩ := h
    exact ⟨m16, hm16, _, _, _, _, rfl, rfl, e1_8, h⟩
  · rw [if_neg (of_decide_eq_false hb21)] at h
    refine WC_exit ?_
    refine exT ?_
    refine exT ?_
    refine exB ?_
    refine nrm ?_
    refine WC_seq ?_
    refine WC_region ?_
    refine WL_val gd0 ((o_move (v := .slice out_a10 out_n11 out_c12) (by exact e3_9)) _) rfl ?_
    refine WL_val gd0 ((o_assign (v := .slice out_a10 out_n11 out_c12) rfl) _) rfl ?_
    refine WL_nil ?_
    refine nrm ?_
    refine WC_ret ?_
    refine rtE ?_
    exact gv1 rfl rfl h

/-- (*spacecraft queue.Queue).usable -/
def F24 (q1 : Option Addr) (w2 : World) (k : Value → World → Prop) : Prop :=
  if (!(q1).isNone) = true then
  ∃ (p4 : Addr), q1 = some p4 ∧ ∃ (x6 : Bool), w2.cell? p4 = some (.bool x6) ∧ k (.bool x6) w2
else
  k (.bool false) w2
set_option maxRecDepth 100000 in
set_option maxHeartbeats 2000000 in
theorem w24 (q1 : Option Addr) (w2 : World) (k : Value → World → Prop) (h : F24 q1 w2 k) : Does Try.prog 24 #[.pointer q1] w2 k := by
  refine enter 11 Try.func24 rfl rfl rfl ?_
  intro ρ hρ
  have e0 := hρ 0 _ rfl
  unfold F24 at h
  refine WC_seq ?_
  refine WC_region ?_
  refine WL_val gd0 ((o_assign (v := .bool false) rfl) _) rfl ?_
  refine WL_nil ?_
  refine nrm ?_
  refine WC_seq ?_
  refine WC_region ?_
  refine WL_val gd0 ((o_move (v := .pointer q1) (by exact e0)) _) rfl ?_
  refine WL_val gd0 ((o_neqPtrNil Try.underlying24 rfl rfl) _) rfl ?_
  refine WL_val gd0 ((o_move (v := .bool (!(q1).isNone)) rfl) _) rfl ?_
  refine bsplit (!(q1).isNone) (fun hb3 => ?_) (fun hb3 => ?_)
  · rw [if_pos hb3] at h
    refine WL_val (gdY (b := (!(q1).isNone)) 5 rfl rfl hb3) ((o_move (v := .pointer q1) (by exact e0)) _) rfl ?_
    obtain ⟨p4, q5, h⟩ := h
    refine WL_val (gdY (b := (!(q1).isNone)) 5 rfl rfl hb3) ((o_nilCheck (by exact (congrArg Value.pointer q5))) _) rfl ?_
    refine WL_val (gdY (b := (!(q1).isNone)) 5 rfl rfl hb3) ((o_fieldAddr0 Try.underlying56 rfl Try.sizeOf4 rfl rfl rfl) _) rfl ?_
    obtain ⟨x6, hc7, h⟩ := h
    refine WL_val (gdY (b := (!(q1).isNone)) 5 rfl rfl hb3) (o_load Try.isAgg4 rfl hc7) rfl ?_
    refine WL_val gd0 ((o_pickT (v := .bool x6) rfl hb3 rfl) _) rfl ?_
    refine WL_val gd0 ((o_assign (v := .bool x6) rfl) _) rfl ?_
    refine WL_nil ?_
    refine nrm ?_
    refine WC_ret ?_
    refine rtE ?_
    exact gv1 rfl rfl h
  · rw [if_neg (neT hb3)] at h
    refine WL_skip (gdN (b := (!(q1).isNone)) 5 rfl rfl hb3) rfl ?_
    refine WL_skip (gdN (b := (!(q1).isNone)) 5 rfl rfl hb3) rfl ?_
    refine WL_skip (gdN (b := (!(q1).isNone)) 5 rfl rfl hb3) rfl ?_
    refine WL_skip (gdN (b := (!(q1).isNone)) 5 rfl rfl hb3) rfl ?_
    refine WL_val gd0 ((o_pickF (v := .bool false) rfl hb3 rfl) _) rfl ?_
    refine WL_val gd0 ((o_assign (v := .bool false) rfl) _) rfl ?_
    refine WL_nil ?_
    refine nrm ?_
    refine WC_ret ?_
    refine rtE ?_
    exact gv1 rfl rfl h

/-- (*spacecraft queue.Queue).index -/
def F25 (q1 : Option Addr) (item2 : Int) (w3 : World) (k : Value → World → Prop) : Prop :=
  New w3 3 [.int .i64 item2] (fun p4 w5 => ∃ (p6 : Addr), q1 = some p6 ∧ ∃ (x_a8 : Option Addr) (x_n9 x_c10 : Nat), w5.cell? (p6.add 2) = some (.slice x_a8 x_n9 x_c10) ∧ Does Try.prog 31 #[.slice x_a8 x_n9 x_c10, .func (.func 32) #[] #[.pointer (some p4)]] w5 (fun v w12 => ∃ (t13 : Int), v = .int .i64 t13 ∧ k (.int .i64 t13) w12))
set_option maxRecDepth 100000 in
set_option maxHeartbeats 2000000 in
theorem w25 (q1 : Option Addr) (item2 : Int) (w3 : World) (k : Value → World → Prop) (h : F25 q1 item2 w3 k) : Does Try.prog 25 #[.pointer q1, .int .i64 item2] w3 k := by
  refine enter 11 Try.func25 rfl rfl rfl ?_
  intro ρ hρ
  have e0 := hρ 0 _ rfl
  have e1 := hρ 1 _ rfl
  unfold F25 at h
  refine WC_seq ?_
  refine WC_region ?_
  have h := New.out h
  refine WL_val gd0 (o_box (v := .int .i64 item2) (cs := [.int .i64 item2]) (by exact e1) rfl) rfl ?_
  generalize hp4 : fresh w3 = p4 at h ⊢
  generalize hw5 : push w3 3 [.int .i64 item2] = w5 at h ⊢
  try dsimp only at h
  refine WL_val gd0 ((o_assign (v := .int .i64 0) rfl) _) rfl ?_
  refine WL_nil ?_
  refine nrm ?_
  refine WC_seq ?_
  refine WC_region ?_
  refine WL_val gd0 ((o_move (v := .pointer q1) (by exact e0)) _) rfl ?_
  obtain ⟨p6, q7, h⟩ := h
  refine WL_val gd0 ((o_nilCheck (by exact (congrArg Value.pointer q7))) _) rfl ?_
  refine WL_val gd0 ((o_fieldAddr 2 Try.underlying56 rfl Try.sizeOf54 rfl rfl rfl) _) rfl ?_
  obtain ⟨x_a8, x_n9, x_c10, hc11, h⟩ := h
  refine WL_val gd0 (o_load Try.isAgg54 rfl hc11) rfl ?_
  refine WL_val gd0 ((o_makeFunc (vs := []) (us := [.pointer (some p4)]) argNil (argCons rfl argNil)) _) rfl ?_
  refine WL_call gd0 (o_call Try.call31 (argCons rfl (argCons rfl argNil)) _) rfl (h.mono ?_)
  rintro _ w12 ⟨t13, rfl, h⟩
  refine WL_val gd0 ((o_assign (v := .int .i64 t13) rfl) _) rfl ?_
  refine WL_nil ?_
  refine nrm ?_
  refine WC_ret ?_
  refine rtE ?_
  exact gv1 rfl rfl h

def F26c27_j1 (p7 : Addr) (l_a1 : Option Addr) (l_n2 : Nat) (l_c3 : Nat) (at16 : Int) (w17 : World) (k : Value → World → Prop) : Prop :=
  ∃ (x18 x19 : Int), Cells w17 p7 0 [.int .i64 x18, .int .i64 x19] ∧ New w17 61 [.int .i64 x18, .int .i64 x19] (fun p21 w22 => Does Try.prog 34 #[.slice l_a1 l_n2 l_c3, .int .i64 at16, .slice (some p21) 1 1] w22 (fun v w23 => ∃ (t_a24 : Option Addr) (t_n25 t_c26 : Nat), v = .slice t_a24 t_n25 t_c26 ∧ k (.slice t_a24 t_n25 t_c26) w23))
/-- spacecraft queue.insert spacecraft queue.entry  -/
def F26c27 (l_a1 : Option Addr) (l_n2 : Nat) (l_c3 : Nat) (x4 : Int) (x5 : Int) (w6 : World) (k : Value → World → Prop) : Prop :=
  New w6 61 [.int .i64 x4, .int .i64 x5] (fun p7 w8 => New w8 62 [.func (.func 27) #[] #[]] (fun p9 w10 => Does Try.prog 31 #[.slice l_a1 l_n2 l_c3, .func (.func 33) #[] #[.pointer (some p9), .pointer (some p7)]] w10 (fun v w11 => ∃ (at12 : Int), v = .int .i64 at12 ∧ if at12 < 0 then
  F26c27_j1 p7 l_a1 l_n2 l_c3 (l_n2 : Int) w11 k
else
  F26c27_j1 p7 l_a1 l_n2 l_c3 at12 w11 k)))
set_option maxRecDepth 100000 in
set_option maxHeartbeats 2000000 in
theorem w26c27 (l_a1 : Option Addr) (l_n2 : Nat) (l_c3 : Nat) (x4 : Int) (x5 : Int) (w6 : World) (k : Value → World → Prop) (h : F26c27 l_a1 l_n2 l_c3 x4 x5 w6 k) : Does Try.prog 26 #[.slice l_a1 l_n2 l_c3, .agg #[.int .i64 x4, .int .i64 x5], .func (.func 27) #[] #[]] w6 k := by
  refine enter 20 Try.func26 rfl rfl rfl ?_
  intro ρ hρ
  have e0 := hρ 0 _ rfl
  have e1 := hρ 1 _ rfl
  have e2 := hρ 2 _ rfl
  unfold F26c27 at h
  refine WC_seq ?_
  refine WC_region ?_
  have h := New.out h
  refine WL_val gd0 (o_box (v := .agg #[.int .i64 x4, .int .i64 x5]) (cs := [.int .i64 x4, .int .i64 x5]) (by exact e1) rfl) rfl ?_
  generalize hp7 : fresh w6 = p7 at h ⊢
  generalize hw8 : push w6 61 [.int .i64 x4, .int .i64 x5] = w8 at h ⊢
  try dsimp only at h
  have h := New.out h
  refine WL_val gd0 (o_box (v := .func (.func 27) #[] #[]) (cs := [.func (.func 27) #[] #[]]) (by exact e2) rfl) rfl ?_
  generalize hp9 : fresh w8 = p9 at h ⊢
  generalize hw10 : push w8 62 [.func (.func 27) #[] #[]] = w10 at h ⊢
  try dsimp only at h
  refine WL_val gd0 ((o_assign (v := .slice none 0 0) rfl) _) rfl ?_
  refine WL_nil ?_
  refine nrm ?_
  refine WC_seq ?_
  refine WC_region ?_
  refine WL_val gd0 ((o_move (v := .slice l_a1 l_n2 l_c3) (by exact e0)) _) rfl ?_
  refine WL_val gd0 ((o_makeFunc (vs := []) (us := [.pointer (some p9), .pointer (some p7)]) argNil (argCons rfl (argCons rfl argNil))) _) rfl ?_
  refine WL_call gd0 (o_call Try.call31 (argCons rfl (argCons rfl argNil)) _) rfl (h.mono ?_)
  rintro _ w11 ⟨at12, rfl, h⟩
  refine WL_val gd0 ((o_assign (v := .int .i64 at12) rfl) _) rfl ?_
  refine WL_nil ?_
  refine nrm ?_
  refine WC_cut (fun ρ w' => ∃ (at16 : Int), ρ 7 = .int .i64 at16 ∧ ρ 0 = .slice l_a1 l_n2 l_c3 ∧ ρ 4 = .pointer (some p7) ∧ F26c27_j1 p7 l_a1 l_n2 l_c3 at16 w' k) ?_ ?_
  · refine WC_seq ?_
    refine WC_region ?_
    refine WL_val gd0 ((o_move (v := .int .i64 at12) rfl) _) rfl ?_
    refine WL_val gd0 ((o_lss rfl rfl) _) rfl ?_
    refine WL_nil ?_
    refine nrm ?_
    refine WC_cond (t := (decide (at12 < 0))) rfl (fun hb27 => ?_) (fun hb27 => ?_)
    · rw [if_pos (of_decide_eq_true hb27)] at h
      refine WC_region ?_
      refine WL_val gd0 ((o_move (v := .slice l_a1 l_n2 l_c3) (by exact e0)) _) rfl ?_
      refine WL_val gd0 ((o_len Try.underlying54 rfl) _) rfl ?_
      refine WL_val gd0 ((o_assign (v := .int .i64 (l_n2 : Int)) rfl) _) rfl ?_
      refine WL_nil ?_
      refine nrm ?_
      exact ⟨_, rfl, e0, rfl, h⟩
    · rw [if_neg (of_decide_eq_false hb27)] at h
      refine WC_skip ?_
      refine nrm ?_
      exact ⟨_, rfl, e0, rfl, h⟩
  · rintro ρ w17 ⟨at16, e7_15, e0_13, e4_14, h⟩
    unfold F26c27_j1 at h
    refine WC_seq ?_
    refine WC_region ?_
    refine WL_val gd0 ((o_move (v := .slice l_a1 l_n2 l_c3) (by exact e0_13)) _) rfl ?_
    refine WL_val gd0 ((o_move (v := .int .i64 at16) (by exact e7_15)) _) rfl ?_
    obtain ⟨x18, x19, hc20, h⟩ := h
    refine WL_val gd0 (o_loadAgg (vs := [.int .i64 x18, .int .i64 x19]) Try.isAgg61 Try.sizeOf61 (by exact e4_14) hc20) rfl ?_
    have h := New.out h
    refine WL_val gd0 (o_buildSlice (e := 61) (ps := [(0, .agg #[.int .i64 x18, .int .i64 x19])]) (cs := [.int .i64 x18, .int .i64 x19]) (partCons rfl partNil) (fun w => by kernel_rfl)) rfl ?_
    generalize hp21 : fresh w17 = p21 at h ⊢
    generalize hw22 : push w17 61 [.int .i64 x18, .int .i64 x19] = w22 at h ⊢
    try dsimp only at h
    refine WL_call gd0 (o_call Try.call34 (argCons rfl (argCons rfl (argCons rfl argNil))) _) rfl (h.mono ?_)
    rintro _ w23 ⟨t_a24, t_n25, t_c26, rfl, h⟩
    refine WL_val gd0 ((o_assign (v := .slice t_a24 t_n25 t_c26) rfl) _) rfl ?_
    refine WL_nil ?_
    refine nrm ?_
    refine WC_ret ?_
    refine rtE ?_
    exact gv1 rfl rfl h

/-- (*spacecraft queue.Queue).Push 1 -/
def F27 (a1 : Int) (a2 : Int) (b3 : Int) (b4 : Int) (w5 : World) (k : Value → World → Prop) : Prop :=
  New w5 61 [.int .i64 a1, .int .i64 a2] (fun p6 w7 => New w7 61 [.int .i64 b3, .int .i64 b4] (fun p8 w9 => ∃ (x10 : Int), w9.cell? p6 = some (.int .i64 x10) ∧ ∃ (x12 : Int), w9.cell? p8 = some (.int .i64 x12) ∧ k (.bool (decide (x10 < x12))) w9))
set_option maxRecDepth 100000 in
set_option maxHeartbeats 2000000 in
theorem w27 (a1 : Int) (a2 : Int) (b3 : Int) (b4 : Int) (w5 : World) (k : Value → World → Prop) (h : F27 a1 a2 b3 b4 w5 k) : Does Try.prog 27 #[.agg #[.int .i64 a1, .int .i64 a2], .agg #[.int .i64 b3, .int .i64 b4]] w5 k := by
  refine enter 10 Try.func27 rfl rfl rfl ?_
  intro ρ hρ
  have e0 := hρ 0 _ rfl
  have e1 := hρ 1 _ rfl
  unfold F27 at h
  refine WC_seq ?_
  refine WC_region ?_
  have h := New.out h
  refine WL_val gd0 (o_box (v := .agg #[.int .i64 a1, .int .i64 a2]) (cs := [.int .i64 a1, .int .i64 a2]) (by exact e0) rfl) rfl ?_
  generalize hp6 : fresh w5 = p6 at h ⊢
  generalize hw7 : push w5 61 [.int .i64 a1, .int .i64 a2] = w7 at h ⊢
  try dsimp only at h
  have h := New.out h
  refine WL_val gd0 (o_box (v := .agg #[.int .i64 b3, .int .i64 b4]) (cs := [.int .i64 b3, .int .i64 b4]) (by exact e1) rfl) rfl ?_
  generalize hp8 : fresh w7 = p8 at h ⊢
  generalize hw9 : push w7 61 [.int .i64 b3, .int .i64 b4] = w9 at h ⊢
  try dsimp only at h
  refine WL_val gd0 ((o_assign (v := .bool false) rfl) _) rfl ?_
  refine WL_nil ?_
  refine nrm ?_
  refine WC_seq ?_
  refine WC_region ?_
  refine WL_val gd0 ((o_fieldAddr0 Try.underlying61 rfl Try.sizeOf3 rfl rfl rfl) _) rfl ?_
  obtain ⟨x10, hc11, h⟩ := h
  refine WL_val gd0 (o_load Try.isAgg3 rfl hc11) rfl ?_
  refine WL_val gd0 ((o_fieldAddr0 Try.underlying61 rfl Try.sizeOf3 rfl rfl rfl) _) rfl ?_
  obtain ⟨x12, hc13, h⟩ := h
  refine WL_val gd0 (o_load Try.isAgg3 rfl hc13) rfl ?_
  refine WL_val gd0 ((o_lss rfl rfl) _) rfl ?_
  refine WL_val gd0 ((o_assign (v := .bool (decide (x10 < x12))) rfl) _) rfl ?_
  refine WL_nil ?_
  refine nrm ?_
  refine WC_ret ?_
  refine rtE ?_
  exact gv1 rfl rfl h

/-- slices.Delete   spacecraft queue.entry,spacecraft queue.entry  -/
def F28 (s_a1 : Option Addr) (s_n2 : Nat) (s_c3 : Nat) (i4 : Int) (j5 : Int) (w6 : World) (k : Value → World → Prop) : Prop :=
  (0 : Int) ≤ i4 ∧ i4 ≤ (j5 : Int) ∧ j5 ≤ ((s_n2 : Int) : Int) ∧ (s_n2 : Int) ≤ (s_c3 : Int) ∧ if i4 = j5 then
  k (.slice s_a1 s_n2 s_c3) w6
else
  (0 : Int) ≤ i4 ∧ i4 ≤ (s_c3 : Int) ∧ (0 : Int) ≤ j5 ∧ j5 ≤ (s_n2 : Int) ∧ ∃ (b_a16 : Option Addr) (b_n17 b_c18 : Nat) (w19 : World), (Builtin.append_ #[54, 54] 54 #[.slice s_a1 i4.toNat s_c3, .slice (cutA s_a1 s_c3 j5.toNat 2) (s_n2 - j5.toNat) (s_c3 - j5.toNat)]).run Try.prog w6.drew = .ok (.slice b_a16 b_n17 b_c18) w19 ∧ (0 : Int) ≤ (b_n17 : Int) ∧ (b_n17 : Int) ≤ ((s_n2 : Int) : Int) ∧ (s_n2 : Int) ≤ (b_c18 : Int) ∧ ∃ (w24 : World), (Builtin.clear_ #[54] 0 #[.slice (cutA b_a16 b_c18 ((b_n17 : Int).toNat) 2) ((s_n2 : Int).toNat - (b_n17 : Int).toNat) (b_c18 - (b_n17 : Int).toNat)]).run Try.prog w19 = .ok (.tuple #[]) w24 ∧ k (.slice b_a16 b_n17 b_c18) w24
set_option maxRecDepth 100000 in
set_option maxHeartbeats 2000000 in
theorem w28 (s_a1 : Option Addr) (s_n2 : Nat) (s_c3 : Nat) (i4 : Int) (j5 : Int) (w6 : World) (k : Value → World → Prop) (h : F28 s_a1 s_n2 s_c3 i4 j5 w6 k) : Does Try.prog 28 #[.slice s_a1 s_n2 s_c3, .int .i64 i4, .int .i64 j5] w6 k := by
  refine enter 33 Try.func28 rfl rfl rfl ?_
  intro ρ hρ
  have e0 := hρ 0 _ rfl
  have e1 := hρ 1 _ rfl
  have e2 := hρ 2 _ rfl
  unfold F28 at h
  refine WC_seq ?_
  refine WC_region ?_
  refine WL_val gd0 ((o_assign (v := .slice none 0 0) rfl) _) rfl ?_
  refine WL_nil ?_
  refine nrm ?_
  refine WC_seq ?_
  refine WC_region ?_
  refine WL_val gd0 ((o_move (v := .slice s_a1 s_n2 s_c3) (by exact e0)) _) rfl ?_
  refine WL_val gd0 ((o_move (v := .int .i64 i4) (by exact e1)) _) rfl ?_
  refine WL_val gd0 ((o_move (v := .int .i64 j5) (by exact e2)) _) rfl ?_
  refine WL_val gd0 ((o_move (v := .slice s_a1 s_n2 s_c3) (by exact e0)) _) rfl ?_
  refine WL_val gd0 ((o_len Try.underlying54 rfl) _) rfl ?_
  obtain ⟨c7, c8, c9, c10, h⟩ := h
  refine WL_val gd0 ((o_sliceLHM Try.underlying54 Try.sizeOf61 rfl rfl rfl rfl c7 c8 c9 c10) _) rfl ?_
  refine WL_nil ?_
  refine nrm ?_
  refine WC_seq ?_
  refine WC_seq ?_
  refine WC_region ?_
  refine WL_val gd0 ((o_move (v := .int .i64 i4) (by exact e1)) _) rfl ?_
  refine WL_val gd0 ((o_move (v := .int .i64 j5) (by exact e2)) _) rfl ?_
  refine WL_val gd0 ((o_eql rfl rfl) _) rfl ?_
  refine WL_nil ?_
  refine nrm ?_
  refine WC_cond (t := (decide (i4 = j5))) rfl (fun hb11 => ?_) (fun hb11 => ?_)
  · rw [if_pos (of_decide_eq_true hb11)] at h
    refine WC_seq ?_
    refine WC_region ?_
    refine WL_val gd0 ((o_move (v := .slice s_a1 s_n2 s_c3) (by exact e0)) _) rfl ?_
    refine WL_val gd0 ((o_assign (v := .slice s_a1 s_n2 s_c3) rfl) _) rfl ?_
    refine WL_nil ?_
    refine nrm ?_
    refine WC_ret ?_
    refine rtT ?_
    refine rtE ?_
    exact gv1 rfl rfl h
  · rw [if_neg (of_decide_eq_false hb11)] at h
    refine WC_skip ?_
    refine nrm ?_
    refine WC_seq ?_
    refine WC_region ?_
    refine WL_val gd0 ((o_move (v := .slice s_a1 s_n2 s_c3) (by exact e0)) _) rfl ?_
    refine WL_val gd0 ((o_len Try.underlying54 rfl) _) rfl ?_
    refine WL_val gd0 ((o_assign (v := .int .i64 (s_n2 : Int)) rfl) _) rfl ?_
    refine WL_nil ?_
    refine nrm ?_
    refine WC_seq ?_
    refine WC_draws [6] (.look 0 (.look 1 (.look 2 (.look 3 (.look 4 (.look 5 (.act 6 (.look 7 .nil)))))))) Try.mixed (by kernel_rfl) ?_
    refine WQ_val rfl gd0 (o_move (v := .slice s_a1 s_n2 s_c3) (by exact e0)) rfl ?_
    refine WQ_val rfl gd0 (o_move (v := .int .i64 i4) (by exact e1)) rfl ?_
    obtain ⟨c12, c13, h⟩ := h
    refine WQ_val rfl gd0 (o_sliceH Try.underlying54 Try.sizeOf61 rfl rfl c12 c13) rfl ?_
    refine WQ_val rfl gd0 (o_move (v := .slice s_a1 s_n2 s_c3) (by exact e0)) rfl ?_
    refine WQ_val rfl gd0 (o_move (v := .int .i64 j5) (by exact e2)) rfl ?_
    obtain ⟨c14, c15, h⟩ := h
    refine WQ_val rfl gd0 (o_sliceL Try.underlying54 Try.sizeOf61 rfl rfl c14 c15) rfl ?_
    obtain ⟨b_a16, b_n17, b_c18, w19, r20, h⟩ := h
    refine WQ_act rfl gd0 (o_append rfl rfl r20) rfl (by exact trivial) ?_
    refine WQ_val rfl gd0 (o_assign (v := .slice b_a16 b_n17 b_c18) rfl) rfl ?_
    refine WQ_nil ?_
    refine nrm ?_
    refine WC_seq ?_
    refine WC_region ?_
    refine WL_val gd0 ((o_move (v := .slice b_a16 b_n17 b_c18) rfl) _) rfl ?_
    refine WL_val gd0 ((o_move (v := .slice b_a16 b_n17 b_c18) rfl) _) rfl ?_
    refine WL_val gd0 ((o_len Try.underlying54 rfl) _) rfl ?_
    refine WL_val gd0 ((o_move (v := .int .i64 (s_n2 : Int)) rfl) _) rfl ?_
    obtain ⟨c21, c22, c23, h⟩ := h
    refine WL_val gd0 ((o_sliceLH Try.underlying54 Try.sizeOf61 rfl rfl rfl c21 c22 c23) _) rfl ?_
    obtain ⟨w24, r25, h⟩ := h
    refine WL_valNone gd0 (o_clear rfl r25) ?_
    refine WL_nil ?_
    refine nrm ?_
    refine WC_seq ?_
    refine WC_region ?_
    refine WL_val gd0 ((o_move (v := .slice b_a16 b_n17 b_c18) rfl) _) rfl ?_
    refine WL_val gd0 ((o_assign (v := .slice b_a16 b_n17 b_c18) rfl) _) rfl ?_
    refine WL_nil ?_
    refine nrm ?_
    refine WC_ret ?_
    refine rtE ?_
    exact gv1 rfl rfl h

def F29_b1 (p7 : Addr) (item5 : Int) (i12 : Int) (w13 : World) (k : Value → World → Prop) (nx13 : Int → World → Prop) : Prop :=
  ∃ (x_a15 : Option Addr) (x_n16 x_c17 : Nat), w13.cell? (p7.add 1) = some (.slice x_a15 x_n16 x_c17) ∧ if i12 < (x_n16 : Int) then
  ∃ (x_a20 : Option Addr) (x_n21 x_c22 : Nat), w13.cell? (p7.add 1) = some (.slice x_a20 x_n21 x_c22) ∧ ∃ (p26 : Addr), x_a20 = some p26 ∧ (0 : Int) ≤ i12 ∧ i12 < (x_n21 : Int) ∧ ∃ (x28 : Int), w13.cell? ((p26.add (i12.toNat * 2)).add 1) = some (.int .i64 x28) ∧ if x28 = item5 then
    k (.int .i64 i12) w13
  else
    nx13 (IntKind.i64.wrap (i12 + 1)) w13
else
  k (.int .i64 (-1)) w13
/-- spacecraft spacecraftref08.find -/
def F29 (q1 : Int) (q_a2 : Option Addr) (q_n3 : Nat) (q_c4 : Nat) (item5 : Int) (w6 : World) (k : Value → World → Prop) : Prop :=
  New w6 40 [.int .i64 q1, .slice q_a2 q_n3 q_c4] (fun p7 w8 => LoopP (fun (s : Int) w' nx' => F29_b1 p7 item5 s w' k (fun x0 w => nx' x0 w)) 0 w8)
set_option maxRecDepth 100000 in
set_option maxHeartbeats 2000000 in
theorem w29 (q1 : Int) (q_a2 : Option Addr) (q_n3 : Nat) (q_c4 : Nat) (item5 : Int) (w6 : World) (k : Value → World → Prop) (h : F29 q1 q_a2 q_n3 q_c4 item5 w6 k) : Does Try.prog 29 #[.agg #[.int .i64 q1, .slice q_a2 q_n3 q_c4], .int .i64 item5] w6 k := by
  refine enter 22 Try.func29 rfl rfl rfl ?_
  intro ρ hρ
  have e0 := hρ 0 _ rfl
  have e1 := hρ 1 _ rfl
  unfold F29 at h
  refine WC_seq ?_
  refine WC_region ?_
  have h := New.out h
  refine WL_val gd0 (o_box (v := .agg #[.int .i64 q1, .slice q_a2 q_n3 q_c4]) (cs := [.int .i64 q1, .slice q_a2 q_n3 q_c4]) (by exact e0) rfl) rfl ?_
  generalize hp7 : fresh w6 = p7 at h ⊢
  generalize hw8 : push w6 40 [.int .i64 q1, .slice q_a2 q_n3 q_c4] = w8 at h ⊢
  try dsimp only at h
  refine WL_val gd0 ((o_assign (v := .int .i64 0) rfl) _) rfl ?_
  refine WL_nil ?_
  refine nrm ?_
  refine WC_seq ?_
  refine WC_seq ?_
  refine WC_region ?_
  refine WL_val gd0 ((o_assign (v := .int .i64 0) rfl) _) rfl ?_
  refine WL_nil ?_
  refine nrm ?_
  refine WC_block ?_
  obtain ⟨J13, ⟨n13, h0⟩, hr13⟩ := h
  refine WC_loop (fun n ρ w' => ∃ (i12 : Int), ρ 5 = .int .i64 i12 ∧ ρ 1 = .int .i64 item5 ∧ ρ 2 = .pointer (some p7) ∧ J13 n i12 w') ⟨n13, _, rfl, e1, rfl, h0⟩ ?_
  rintro n13 ρ w13 ⟨i12, e5_11, e1_9, e2_10, h⟩
  have h : F29_b1 p7 item5 i12 w13 k (fun x0 w => ∃ m, m < n13 ∧ J13 m x0 w) := hr13 n13 i12 w13 h
  unfold F29_b1 at h
  refine WC_seq ?_
  refine WC_seq ?_
  refine WC_region ?_
  refine WL_val gd0 ((o_move (v := .int .i64 i12) (by exact e5_11)) _) rfl ?_
  refine WL_val gd0 ((o_fieldAddr 1 Try.underlying40 rfl Try.sizeOf38 rfl rfl (by exact e2_10)) _) rfl ?_
  obtain ⟨x_a15, x_n16, x_c17, hc18, h⟩ := h
  refine WL_val gd0 (o_load Try.isAgg38 rfl hc18) rfl ?_
  refine WL_val gd0 ((o_len Try.underlying38 rfl) _) rfl ?_
  refine WL_val gd0 ((o_lss rfl rfl) _) rfl ?_
  refine WL_nil ?_
  refine nrm ?_
  refine WC_cond (t := (decide (i12 < (x_n16 : Int)))) rfl (fun hb19 => ?_) (fun hb19 => ?_)
  · rw [if_pos (of_decide_eq_true hb19)] at h
    refine WC_skip ?_
    refine nrm ?_
    refine WC_seq ?_
    refine WC_block ?_
    refine WC_seq ?_
    refine WC_region ?_
    refine WL_val gd0 ((o_fieldAddr 1 Try.underlying40 rfl Try.sizeOf38 rfl rfl (by exact e2_10)) _) rfl ?_
    obtain ⟨x_a20, x_n21, x_c22, hc23, h⟩ := h
    refine WL_val gd0 (o_load Try.isAgg38 rfl hc23) rfl ?_
    refine WL_val gd0 ((o_move (v := .int .i64 i12) (by exact e5_11)) _) rfl ?_
    obtain ⟨p26, q27, h⟩ := h
    obtain ⟨l24, u25, h⟩ := h
    refine WL_val gd0 ((o_indexAddr Try.underlying38 Try.sizeOf66 (by exact (congrArg (fun z => Value.slice z x_n21 x_c22) q27)) rfl l24 u25) _) rfl ?_
    refine WL_val gd0 ((o_fieldAddr 1 Try.underlying66 rfl Try.sizeOf3 rfl rfl rfl) _) rfl ?_
    obtain ⟨x28, hc29, h⟩ := h
    refine WL_val gd0 (o_load Try.isAgg3 rfl hc29) rfl ?_
    refine WL_val gd0 ((o_move (v := .int .i64 item5) (by exact e1_9)) _) rfl ?_
    refine WL_val gd0 ((o_eql rfl rfl) _) rfl ?_
    refine WL_nil ?_
    refine nrm ?_
    refine WC_cond (t := (decide (x28 = item5))) rfl (fun hb30 => ?_) (fun hb30 => ?_)
    · rw [if_pos (of_decide_eq_true hb30)] at h
      refine WC_seq ?_
      refine WC_region ?_
      refine WL_val gd0 ((o_move (v := .int .i64 i12) (by exact e5_11)) _) rfl ?_
      refine WL_val gd0 ((o_assign (v := .int .i64 i12) rfl) _) rfl ?_
      refine WL_nil ?_
      refine nrm ?_
      refine WC_ret ?_
      refine rtB ?_
      refine rtT ?_
      refine rtT ?_
      refine rtB ?_
      refine rtT ?_
      refine rtE ?_
      exact gv1 rfl rfl h
    · rw [if_neg (of_decide_eq_false hb30)] at h
      refine WC_skip ?_
      refine nrmB ?_
      refine nrm ?_
      refine WC_region ?_
      refine WL_val gd0 ((o_move (v := .int .i64 i12) (by exact e5_11)) _) rfl ?_
      refine WL_val gd0 ((o_add rfl rfl) _) rfl ?_
      refine WL_val gd0 ((o_assign (v := .int .i64 (IntKind.i64.wrap (i12 + 1))) rfl) _) rfl ?_
      refine WL_nil ?_
      refine nrm ?_
      obtain ⟨m14, hm14, h⟩ := h
      exact ⟨m14, hm14, _, rfl, e1_9, e2_10, h⟩
  · rw [if_neg (of_decide_eq_false hb19)] at h
    refine WC_exit ?_
    refine exT ?_
    refine exT ?_
    refine exB ?_
    refine nrm ?_
    refine WC_seq ?_
    refine WC_region ?_
    refine WL_val gd0 ((o_assign (v := .int .i64 (-1)) rfl) _) rfl ?_
    refine WL_nil ?_
    refine nrm ?_
    refine WC_ret ?_
    refine rtE ?_
    exact gv1 rfl rfl h

/-- slices.Clone   spacecraft queue.entry,spacecraft queue.entry  -/
def F30 (s_a1 : Option Addr) (s_n2 : Nat) (s_c3 : Nat) (w4 : World) (k : Value → World → Prop) : Prop :=
  if (s_a1).isNone = true then
  k (.slice none 0 0) w4
else
  New w4 61 [] (fun p6 w7 => ∃ (b_a8 : Option Addr) (b_n9 b_c10 : Nat) (w11 : World), (Builtin.append_ #[54, 54] 54 #[.slice (some p6) 0 0, .slice s_a1 s_n2 s_c3]).run Try.prog w7 = .ok (.slice b_a8 b_n9 b_c10) w11 ∧ k (.slice b_a8 b_n9 b_c10) w11)
set_option maxRecDepth 100000 in
set_option maxHeartbeats 2000000 in
theorem w30 (s_a1 : Option Addr) (s_n2 : Nat) (s_c3 : Nat) (w4 : World) (k : Value → World → Prop) (h : F30 s_a1 s_n2 s_c3 w4 k) : Does Try.prog 30 #[.slice s_a1 s_n2 s_c3] w4 k := by
  refine enter 8 Try.func30 rfl rfl rfl ?_
  intro ρ hρ
  have e0 := hρ 0 _ rfl
  unfold F30 at h
  refine WC_seq ?_
  refine WC_region ?_
  refine WL_val gd0 ((o_assign (v := .slice none 0 0) rfl) _) rfl ?_
  refine WL_nil ?_
  refine nrm ?_
  refine WC_seq ?_
  refine WC_seq ?_
  refine WC_region ?_
  refine WL_val gd0 ((o_move (v := .slice s_a1 s_n2 s_c3) (by exact e0)) _) rfl ?_
  refine WL_val gd0 ((o_eqlSliceNil Try.underlying54 rfl rfl) _) rfl ?_
  refine WL_nil ?_
  refine nrm ?_
  refine WC_cond (t := ((s_a1).isNone)) rfl (fun hb5 => ?_) (fun hb5 => ?_)
  · rw [if_pos hb5] at h
    refine WC_seq ?_
    refine WC_region ?_
    refine WL_val gd0 ((o_assign (v := .slice none 0 0) rfl) _) rfl ?_
    refine WL_nil ?_
    refine nrm ?_
    refine WC_ret ?_
    refine rtT ?_
    refine rtE ?_
    exact gv1 rfl rfl h
  · rw [if_neg (neT hb5)] at h
    refine WC_skip ?_
    refine nrm ?_
    refine WC_seq ?_
    refine WC_region ?_
    have h := New.out h
    refine WL_val gd0 (o_buildSlice (e := 61) (ps := []) (cs := []) partNil (fun w => by kernel_rfl)) rfl ?_
    generalize hp6 : fresh w4 = p6 at h ⊢
    generalize hw7 : push w4 61 [] = w7 at h ⊢
    try dsimp only at h
    refine WL_val gd0 ((o_move (v := .slice s_a1 s_n2 s_c3) (by exact e0)) _) rfl ?_
    obtain ⟨b_a8, b_n9, b_c10, w11, r12, h⟩ := h
    refine WL_val gd0 (o_append rfl rfl r12) rfl ?_
    refine WL_val gd0 ((o_assign (v := .slice b_a8 b_n9 b_c10) rfl) _) rfl ?_
    refine WL_nil ?_
    refine nrm ?_
    refine WC_ret ?_
    refine rtE ?_
    exact gv1 rfl rfl h

def F31c32_b1 (s_n2 : Nat) (s_a1 : Option Addr) (q4 : Option Addr) (t10 : Int) (w11 : World) (k : Value → World → Prop) (nx11 : Int → World → Prop) : Prop :=
  if t10 < (s_n2 : Int) then
  ∃ (p16 : Addr), s_a1 = some p16 ∧ (0 : Int) ≤ t10 ∧ t10 < (s_n2 : Int) ∧ ∃ (x18 x19 : Int), Cells w11 (p16.add (t10.toNat * 2)) 0 [.int .i64 x18, .int .i64 x19] ∧ Does Try.prog 32 #[.agg #[.int .i64 x18, .int .i64 x19], .pointer q4] w11 (fun v w21 => ∃ (x22 : Bool), v = .bool x22 ∧ if x22 = true then
    k (.int .i64 t10) w21
  else
    nx11 (IntKind.i64.wrap (t10 + 1)) w21)
else
  k (.int .i64 (-1)) w11
/-- slices.IndexFunc   spacecraft queue.entry,spacecraft queue.entry  -/
def F31c32 (s_a1 : Option Addr) (s_n2 : Nat) (s_c3 : Nat) (q4 : Option Addr) (w5 : World) (k : Value → World → Prop) : Prop :=
  LoopP (fun (s : Int) w' nx' => F31c32_b1 s_n2 s_a1 q4 s w' k (fun x0 w => nx' x0 w)) 0 w5
set_option maxRecDepth 100000 in
set_option maxHeartbeats 2000000 in
theorem w31c32 (s_a1 : Option Addr) (s_n2 : Nat) (s_c3 : Nat) (q4 : Option Addr) (w5 : World) (k : Value → World → Prop) (h : F31c32 s_a1 s_n2 s_c3 q4 w5 k) : Does Try.prog 31 #[.slice s_a1 s_n2 s_c3, .func (.func 32) #[] #[.pointer q4]] w5 k := by
  refine enter 19 Try.func31 rfl rfl rfl ?_
  intro ρ hρ
  have e0 := hρ 0 _ rfl
  have e1 := hρ 1 _ rfl
  unfold F31c32 at h
  refine WC_seq ?_
  refine WC_region ?_
  refine WL_val gd0 ((o_assign (v := .int .i64 0) rfl) _) rfl ?_
  refine WL_nil ?_
  refine nrm ?_
  refine WC_seq ?_
  refine WC_seq ?_
  refine WC_region ?_
  refine WL_val gd0 ((o_move (v := .slice s_a1 s_n2 s_c3) (by exact e0)) _) rfl ?_
  refine WL_val gd0 ((o_len Try.underlying54 rfl) _) rfl ?_
  refine WL_val gd0 ((o_move (v := .int .i64 0) rfl) _) rfl ?_
  refine WL_nil ?_
  refine nrm ?_
  refine WC_block ?_
  obtain ⟨J11, ⟨n11, h0⟩, hr11⟩ := h
  refine WC_loop (fun n ρ w' => ∃ (t10 : Int), ρ 8 = .int .i64 t10 ∧ ρ 0 = .slice s_a1 s_n2 s_c3 ∧ ρ 1 = .func (.func 32) #[] #[.pointer q4] ∧ ρ 7 = .int .i64 (s_n2 : Int) ∧ J11 n t10 w') ⟨n11, _, rfl, e0, e1, rfl, h0⟩ ?_
  rintro n11 ρ w11 ⟨t10, e8_9, e0_6, e1_7, e7_8, h⟩
  have h : F31c32_b1 s_n2 s_a1 q4 t10 w11 k (fun x0 w => ∃ m, m < n11 ∧ J11 m x0 w) := hr11 n11 t10 w11 h
  unfold F31c32_b1 at h
  refine WC_seq ?_
  refine WC_region ?_
  refine WL_val gd0 ((o_lss (by exact e8_9) (by exact e7_8)) _) rfl ?_
  refine WL_nil ?_
  refine nrm ?_
  refine WC_seq ?_
  refine WC_cond (t := (decide (t10 < (s_n2 : Int)))) rfl (fun hb13 => ?_) (fun hb13 => ?_)
  · rw [if_pos (of_decide_eq_true hb13)] at h
    refine WC_skip ?_
    refine nrm ?_
    refine WC_seq ?_
    refine WC_block ?_
    refine WC_seq ?_
    refine WC_region ?_
    refine WL_val gd0 ((o_move (v := .int .i64 t10) (by exact e8_9)) _) rfl ?_
    refine WL_val gd0 ((o_assign (v := .int .i64 t10) rfl) _) rfl ?_
    refine WL_nil ?_
    refine nrm ?_
    refine WC_seq ?_
    refine WC_region ?_
    refine WL_val gd0 ((o_move (v := .func (.func 32) #[] #[.pointer q4]) (by exact e1_7)) _) rfl ?_
    refine WL_val gd0 ((o_move (v := .slice s_a1 s_n2 s_c3) (by exact e0_6)) _) rfl ?_
    refine WL_val gd0 ((o_move (v := .int .i64 t10) rfl) _) rfl ?_
    obtain ⟨p16, q17, h⟩ := h
    obtain ⟨l14, u15, h⟩ := h
    refine WL_val gd0 ((o_indexAddr Try.underlying54 Try.sizeOf61 (by exact (congrArg (fun z => Value.slice z s_n2 s_c3) q17)) rfl l14 u15) _) rfl ?_
    obtain ⟨x18, x19, hc20, h⟩ := h
    refine WL_val gd0 (o_loadAgg (vs := [.int .i64 x18, .int .i64 x19]) Try.isAgg61 Try.sizeOf61 rfl hc20) rfl ?_
    refine WL_call gd0 (o_callVal (bs := []) (cs := [.pointer q4]) Try.call32 rfl (argCons rfl argNil) _) rfl (h.mono ?_)
    rintro _ w21 ⟨x22, rfl, h⟩
    refine WL_nil ?_
    refine nrm ?_
    refine WC_cond (t := x22) rfl (fun hb23 => ?_) (fun hb23 => ?_)
    · rw [if_pos hb23] at h
      refine WC_seq ?_
      refine WC_region ?_
      refine WL_val gd0 ((o_move (v := .int .i64 t10) rfl) _) rfl ?_
      refine WL_val gd0 ((o_assign (v := .int .i64 t10) rfl) _) rfl ?_
      refine WL_nil ?_
      refine nrm ?_
      refine WC_ret ?_
      refine rtB ?_
      refine rtT ?_
      refine rtT ?_
      refine rtB ?_
      refine rtT ?_
      refine rtE ?_
      exact gv1 rfl rfl h
    · rw [if_neg (neT hb23)] at h
      refine WC_skip ?_
      refine nrmB ?_
      refine nrm ?_
      refine WC_region ?_
      refine WL_val gd0 ((o_add (by exact e8_9) rfl) _) rfl ?_
      refine WL_val gd0 ((o_move (v := .int .i64 (IntKind.i64.wrap (t10 + 1))) rfl) _) rfl ?_
      refine WL_nil ?_
      refine nrm ?_
      obtain ⟨m12, hm12, h⟩ := h
      exact ⟨m12, hm12, _, rfl, e0_6, e1_7, e7_8, h⟩
  · rw [if_neg (of_decide_eq_false hb13)] at h
    refine WC_exit ?_
    refine exT ?_
    refine exT ?_
    refine exB ?_
    refine nrm ?_
    refine WC_seq ?_
    refine WC_region ?_
    refine WL_val gd0 ((o_assign (v := .int .i64 (-1)) rfl) _) rfl ?_
    refine WL_nil ?_
    refine nrm ?_
    refine WC_ret ?_
    refine rtE ?_
    exact gv1 rfl rfl h

def F31c33_b1 (s_n2 : Nat) (s_a1 : Option Addr) (q4 : Option Addr) (q5 : Option Addr) (t11 : Int) (w12 : World) (k : Value → World → Prop) (nx12 : Int → World → Prop) : Prop :=
  if t11 < (s_n2 : Int) then
  ∃ (p17 : Addr), s_a1 = some p17 ∧ (0 : Int) ≤ t11 ∧ t11 < (s_n2 : Int) ∧ ∃ (x19 x20 : Int), Cells w12 (p17.add (t11.toNat * 2)) 0 [.int .i64 x19, .int .i64 x20] ∧ Does Try.prog 33 #[.agg #[.int .i64 x19, .int .i64 x20], .pointer q4, .pointer q5] w12 (fun v w22 => ∃ (x23 : Bool), v = .bool x23 ∧ if x23 = true then
    k (.int .i64 t11) w22
  else
    nx12 (IntKind.i64.wrap (t11 + 1)) w22)
else
  k (.int .i64 (-1)) w12
/-- slices.IndexFunc   spacecraft queue.entry,spacecraft queue.entry  -/
def F31c33 (s_a1 : Option Addr) (s_n2 : Nat) (s_c3 : Nat) (q4 : Option Addr) (q5 : Option Addr) (w6 : World) (k : Value → World → Prop) : Prop :=
  LoopP (fun (s : Int) w' nx' => F31c33_b1 s_n2 s_a1 q4 q5 s w' k (fun x0 w => nx' x0 w)) 0 w6
set_option maxRecDepth 100000 in
set_option maxHeartbeats 2000000 in
theorem w31c33 (s_a1 : Option Addr) (s_n2 : Nat) (s_c3 : Nat) (q4 : Option Addr) (q5 : Option Addr) (w6 : World) (k : Value → World → Prop) (h : F31c33 s_a1 s_n2 s_c3 q4 q5 w6 k) : Does Try.prog 31 #[.slice s_a1 s_n2 s_c3, .func (.func 33) #[] #[.pointer q4, .pointer q5]] w6 k := by
  refine enter 19 Try.func31 rfl rfl rfl ?_
  intro ρ hρ
  have e0 := hρ 0 _ rfl
  have e1 := hρ 1 _ rfl
  unfold F31c33 at h
  refine WC_seq ?_
  refine WC_region ?_
  refine WL_val gd0 ((o_assign (v := .int .i64 0) rfl) _) rfl ?_
  refine WL_nil ?_
  refine nrm ?_
  refine WC_seq ?_
  refine WC_seq ?_
  refine WC_region ?_
  refine WL_val gd0 ((o_move (v := .slice s_a1 s_n2 s_c3) (by exact e0)) _) rfl ?_
  refine WL_val gd0 ((o_len Try.underlying54 rfl) _) rfl ?_
  refine WL_val gd0 ((o_move (v := .int .i64 0) rfl) _) rfl ?_
  refine WL_nil ?_
  refine nrm ?_
  refine WC_block ?_
  obtain ⟨J12, ⟨n12, h0⟩, hr12⟩ := h
  refine WC_loop (fun n ρ w' => ∃ (t11 : Int), ρ 8 = .int .i64 t11 ∧ ρ 0 = .slice s_a1 s_n2 s_c3 ∧ ρ 1 = .func (.func 33) #[] #[.pointer q4, .pointer q5] ∧ ρ 7 = .int .i64 (s_n2 : Int) ∧ J12 n t11 w') ⟨n12, _, rfl, e0, e1, rfl, h0⟩ ?_
  rintro n12 ρ w12 ⟨t11, e8_10, e0_7, e1_8, e7_9, h⟩
  have h : F31c33_b1 s_n2 s_a1 q4 q5 t11 w12 k (fun x0 w => ∃ m, m < n12 ∧ J12 m x0 w) := hr12 n12 t11 w12 h
  unfold F31c33_b1 at h
  refine WC_seq ?_
  refine WC_region ?_
  refine WL_val gd0 ((o_lss (by exact e8_10) (by exact e7_9)) _) rfl ?_
  refine WL_nil ?_
  refine nrm ?_
  refine WC_seq ?_
  refine WC_cond (t := (decide (t11 < (s_n2 : Int)))) rfl (fun hb14 => ?_) (fun hb14 => ?_)
  · rw [if_pos (of_decide_eq_true hb14)] at h
    refine WC_skip ?_
    refine nrm ?_
    refine WC_seq ?_
    refine WC_block ?_
    refine WC_seq ?_
    refine WC_region ?_
    refine WL_val gd0 ((o_move (v := .int .i64 t11) (by exact e8_10)) _) rfl ?_
    refine WL_val gd0 ((o_assign (v := .int .i64 t11) rfl) _) rfl ?_
    refine WL_nil ?_
    refine nrm ?_
    refine WC_seq ?_
    refine WC_region ?_
    refine WL_val gd0 ((o_move (v := .func (.func 33) #[] #[.pointer q4, .pointer q5]) (by exact e1_8)) _) rfl ?_
    refine WL_val gd0 ((o_move (v := .slice s_a1 s_n2 s_c3) (by exact e0_7)) _) rfl ?_
    refine WL_val gd0 ((o_move (v := .int .i64 t11) rfl) _) rfl ?_
    obtain ⟨p17, q18, h⟩ := h
    obtain ⟨l15, u16, h⟩ := h
    refine WL_val gd0 ((o_indexAddr Try.underlying54 Try.sizeOf61 (by exact (congrArg (fun z => Value.slice z s_n2 s_c3) q18)) rfl l15 u16) _) rfl ?_
    obtain ⟨x19, x20, hc21, h⟩ := h
    refine WL_val gd0 (o_loadAgg (vs := [.int .i64 x19, .int .i64 x20]) Try.isAgg61 Try.sizeOf61 rfl hc21) rfl ?_
    refine WL_call gd0 (o_callVal (bs := []) (cs := [.pointer q4, .pointer q5]) Try.call33 rfl (argCons rfl argNil) _) rfl (h.mono ?_)
    rintro _ w22 ⟨x23, rfl, h⟩
    refine WL_nil ?_
    refine nrm ?_
    refine WC_cond (t := x23) rfl (fun hb24 => ?_) (fun hb24 => ?_)
    · rw [if_pos hb24] at h
      refine WC_seq ?_
      refine WC_region ?_
      refine WL_val gd0 ((o_move (v := .int .i64 t11) rfl) _) rfl ?_
      refine WL_val gd0 ((o_assign (v := .int .i64 t11) rfl) _) rfl ?_
      refine WL_nil ?_
      refine nrm ?_
      refine WC_ret ?_
      refine rtB ?_
      refine rtT ?_
      refine rtT ?_
      refine rtB ?_
      refine rtT ?_
      refine rtE ?_
      exact gv1 rfl rfl h
    · rw [if_neg (neT hb24)] at h
      refine WC_skip ?_
      refine nrmB ?_
      refine nrm ?_
      refine WC_region ?_
      refine WL_val gd0 ((o_add (by exact e8_10) rfl) _) rfl ?_
      refine WL_val gd0 ((o_move (v := .int .i64 (IntKind.i64.wrap (t11 + 1))) rfl) _) rfl ?_
      refine WL_nil ?_
      refine nrm ?_
      obtain ⟨m13, hm13, h⟩ := h
      exact ⟨m13, hm13, _, rfl, e0_7, e1_8, e7_9, h⟩
  · rw [if_neg (of_decide_eq_false hb14)] at h
    refine WC_exit ?_
    refine exT ?_
    refine exT ?_
    refine exB ?_
    refine nrm ?_
    refine WC_seq ?_
    refine WC_region ?_
    refine WL_val gd0 ((o_assign (v := .int .i64 (-1)) rfl) _) rfl ?_
    refine WL_nil ?_
    refine nrm ?_
    refine WC_ret ?_
    refine rtE ?_
    exact gv1 rfl rfl h

/-- (*spacecraft queue.Queue).index 1 -/
def F32 (e_1 : Int) (e_2 : Int) (t3 : Option Addr) (w4 : World) (k : Value → World → Prop) : Prop :=
  New w4 61 [.int .i64 e_1, .int .i64 e_2] (fun p5 w6 => ∃ (x7 : Int), w6.cell? (p5.add 1) = some (.int .i64 x7) ∧ ∃ (p9 : Addr), t3 = some p9 ∧ ∃ (x11 : Int), w6.cell? p9 = some (.int .i64 x11) ∧ k (.bool (decide (x7 = x11))) w6)
set_option maxRecDepth 100000 in
set_option maxHeartbeats 2000000 in
theorem w32 (e_1 : Int) (e_2 : Int) (t3 : Option Addr) (w4 : World) (k : Value → World → Prop) (h : F32 e_1 e_2 t3 w4 k) : Does Try.prog 32 #[.agg #[.int .i64 e_1, .int .i64 e_2], .pointer t3] w4 k := by
  refine enter 8 Try.func32 rfl rfl rfl ?_
  intro ρ hρ
  have e0 := hρ 0 _ rfl
  have e1 := hρ 1 _ rfl
  unfold F32 at h
  refine WC_seq ?_
  refine WC_region ?_
  have h := New.out h
  refine WL_val gd0 (o_box (v := .agg #[.int .i64 e_1, .int .i64 e_2]) (cs := [.int .i64 e_1, .int .i64 e_2]) (by exact e0) rfl) rfl ?_
  generalize hp5 : fresh w4 = p5 at h ⊢
  generalize hw6 : push w4 61 [.int .i64 e_1, .int .i64 e_2] = w6 at h ⊢
  try dsimp only at h
  refine WL_val gd0 ((o_assign (v := .bool false) rfl) _) rfl ?_
  refine WL_nil ?_
  refine nrm ?_
  refine WC_seq ?_
  refine WC_region ?_
  refine WL_val gd0 ((o_fieldAddr 1 Try.underlying61 rfl Try.sizeOf3 rfl rfl rfl) _) rfl ?_
  obtain ⟨x7, hc8, h⟩ := h
  refine WL_val gd0 (o_load Try.isAgg3 rfl hc8) rfl ?_
  obtain ⟨p9, q10, h⟩ := h
  obtain ⟨x11, hc12, h⟩ := h
  refine WL_val gd0 (o_load Try.isAgg3 (by exact (Eq.trans e1 (congrArg Value.pointer q10))) hc12) rfl ?_
  refine WL_val gd0 ((o_eql rfl rfl) _) rfl ?_
  refine WL_val gd0 ((o_assign (v := .bool (decide (x7 = x11))) rfl) _) rfl ?_
  refine WL_nil ?_
  refine nrm ?_
  refine WC_ret ?_
  refine rtE ?_
  exact gv1 rfl rfl h

/-- spacecraft queue.insert spacecraft queue.entry  1 -/
def F33 (y1 : Int) (y2 : Int) (t3 : Option Addr) (t4 : Option Addr) (w5 : World) (k : Value → World → Prop) : Prop :=
  New w5 61 [.int .i64 y1, .int .i64 y2] (fun p6 w7 => ∃ (p8 : Addr), t3 = some p8 ∧ ∃ (x10 : Value), w7.cell? p8 = some (x10) ∧ ∃ (p12 : Addr), t4 = some p12 ∧ ∃ (x14 x15 : Int), Cells w7 p12 0 [.int .i64 x14, .int .i64 x15] ∧ ∃ (x17 x18 : Int), Cells w7 p6 0 [.int .i64 x17, .int .i64 x18] ∧ x10 = .func (.func 27) #[] #[] ∧ Does Try.prog 27 #[.agg #[.int .i64 x14, .int .i64 x15], .agg #[.int .i64 x17, .int .i64 x18]] w7 (fun v w20 => ∃ (t21 : Bool), v = .bool t21 ∧ k (.bool t21) w20))
set_option maxRecDepth 100000 in
set_option maxHeartbeats 2000000 in
theorem w33 (y1 : Int) (y2 : Int) (t3 : Option Addr) (t4 : Option Addr) (w5 : World) (k : Value → World → Prop) (h : F33 y1 y2 t3 t4 w5 k) : Does Try.prog 33 #[.agg #[.int .i64 y1, .int .i64 y2], .pointer t3, .pointer t4] w5 k := by
  refine enter 9 Try.func33 rfl rfl rfl ?_
  intro ρ hρ
  have e0 := hρ 0 _ rfl
  have e1 := hρ 1 _ rfl
  have e2 := hρ 2 _ rfl
  unfold F33 at h
  refine WC_seq ?_
  refine WC_region ?_
  have h := New.out h
  refine WL_val gd0 (o_box (v := .agg #[.int .i64 y1, .int .i64 y2]) (cs := [.int .i64 y1, .int .i64 y2]) (by exact e0) rfl) rfl ?_
  generalize hp6 : fresh w5 = p6 at h ⊢
  generalize hw7 : push w5 61 [.int .i64 y1, .int .i64 y2] = w7 at h ⊢
  try dsimp only at h
  refine WL_val gd0 ((o_assign (v := .bool false) rfl) _) rfl ?_
  refine WL_nil ?_
  refine nrm ?_
  refine WC_seq ?_
  refine WC_region ?_
  obtain ⟨p8, q9, h⟩ := h
  obtain ⟨x10, hc11, h⟩ := h
  refine WL_val gd0 (o_load Try.isAgg62 (by exact (Eq.trans e1 (congrArg Value.pointer q9))) hc11) rfl ?_
  obtain ⟨p12, q13, h⟩ := h
  obtain ⟨x14, x15, hc16, h⟩ := h
  refine WL_val gd0 (o_loadAgg (vs := [.int .i64 x14, .int .i64 x15]) Try.isAgg61 Try.sizeOf61 (by exact (Eq.trans e2 (congrArg Value.pointer q13))) hc16) rfl ?_
  obtain ⟨x17, x18, hc19, h⟩ := h
  refine WL_val gd0 (o_loadAgg (vs := [.int .i64 x17, .int .i64 x18]) Try.isAgg61 Try.sizeOf61 rfl hc19) rfl ?_
  obtain ⟨rfl, h⟩ := h
  refine WL_call gd0 (o_callVal (bs := []) (cs := []) Try.call27 rfl (argCons rfl (argCons rfl argNil)) _) rfl (h.mono ?_)
  rintro _ w20 ⟨t21, rfl, h⟩
  refine WL_val gd0 ((o_assign (v := .bool t21) rfl) _) rfl ?_
  refine WL_nil ?_
  refine nrm ?_
  refine WC_ret ?_
  refine rtE ?_
  exact gv1 rfl rfl h

/-- slices.Insert   spacecraft queue.entry,spacecraft queue.entry  -/
def F34 (s_a1 : Option Addr) (s_n2 : Nat) (s_c3 : Nat) (i4 : Int) (v_a5 : Option Addr) (v_n6 : Nat) (v_c7 : Nat) (w8 : World) (k : Value → World → Prop) : Prop :=
  (0 : Int) ≤ i4 ∧ i4 ≤ (s_n2 : Int) ∧ if (v_n6 : Int) = 0 then
  k (.slice s_a1 s_n2 s_c3) w8
else
  if i4 = (s_n2 : Int) then
    ∃ (b_a13 : Option Addr) (b_n14 b_c15 : Nat) (w16 : World), (Builtin.append_ #[54, 54] 54 #[.slice s_a1 s_n2 s_c3, .slice v_a5 v_n6 v_c7]).run Try.prog w8 = .ok (.slice b_a13 b_n14 b_c15) w16 ∧ k (.slice b_a13 b_n14 b_c15) w16
  else
    if (s_c3 : Int) < (IntKind.i64.wrap ((s_n2 : Int) + (v_n6 : Int))) then
      (0 : Int) ≤ i4 ∧ i4 ≤ (s_c3 : Int) ∧ ∃ (b_a21 : Option Addr) (b_n22 b_c23 : Nat) (w24 : World), (Builtin.append_ #[54, 3] 54 #[.slice s_a1 i4.toNat s_c3, .int .i64 (IntKind.i64.wrap ((IntKind.i64.wrap ((s_n2 : Int) + (v_n6 : Int))) - i4))]).run Try.prog w8 = .ok (.slice b_a21 b_n22 b_c23) w24 ∧ (0 : Int) ≤ i4 ∧ i4 ≤ (b_n22 : Int) ∧ ∃ (n28 : Int) (w29 : World), (Builtin.copy_ #[54, 54] 3 #[.slice (cutA b_a21 b_c23 i4.toNat 2) (b_n22 - i4.toNat) (b_c23 - i4.toNat), .slice v_a5 v_n6 v_c7]).run Try.prog w24 = .ok (.int .i64 n28) w29 ∧ (0 : Int) ≤ IntKind.i64.wrap (i4 + (v_n6 : Int)) ∧ IntKind.i64.wrap (i4 + (v_n6 : Int)) ≤ (b_n22 : Int) ∧ (0 : Int) ≤ i4 ∧ i4 ≤ (s_n2 : Int) ∧ ∃ (n35 : Int) (w36 : World), (Builtin.copy_ #[54, 54] 3 #[.slice (cutA b_a21 b_c23 ((IntKind.i64.wrap (i4 + (v_n6 : Int))).toNat) 2) (b_n22 - (IntKind.i64.wrap (i4 + (v_n6 : Int))).toNat) (b_c23 - (IntKind.i64.wrap (i4 + (v_n6 : Int))).toNat), .slice (cutA s_a1 s_c3 i4.toNat 2) (s_n2 - i4.toNat) (s_c3 - i4.toNat)]).run Try.prog w29.drew = .ok (.int .i64 n35) w36 ∧ k (.slice b_a21 b_n22 b_c23) w36
    else
      (0 : Int) ≤ IntKind.i64.wrap ((s_n2 : Int) + (v_n6 : Int)) ∧ IntKind.i64.wrap ((s_n2 : Int) + (v_n6 : Int)) ≤ (s_c3 : Int) ∧ (0 : Int) ≤ IntKind.i64.wrap (i4 + (v_n6 : Int)) ∧ IntKind.i64.wrap (i4 + (v_n6 : Int)) ≤ (((IntKind.i64.wrap ((s_n2 : Int) + (v_n6 : Int))).toNat : Nat) : Int) ∧ ∃ (x42 : Bool) (w43 : World), (callFunc 35 #[.slice v_a5 v_n6 v_c7, .slice (cutA s_a1 s_c3 ((IntKind.i64.wrap (i4 + (v_n6 : Int))).toNat) 2) (((IntKind.i64.wrap ((s_n2 : Int) + (v_n6 : Int))).toNat) - (IntKind.i64.wrap (i4 + (v_n6 : Int))).toNat) (s_c3 - (IntKind.i64.wrap (i4 + (v_n6 : Int))).toNat)]).run Try.prog w8 = .ok (.value (.bool x42)) w43 ∧ if (!x42) = true then
        (0 : Int) ≤ IntKind.i64.wrap (i4 + (v_n6 : Int)) ∧ IntKind.i64.wrap (i4 + (v_n6 : Int)) ≤ (((IntKind.i64.wrap ((s_n2 : Int) + (v_n6 : Int))).toNat : Nat) : Int) ∧ (0 : Int) ≤ i4 ∧ i4 ≤ (((IntKind.i64.wrap ((s_n2 : Int) + (v_n6 : Int))).toNat : Nat) : Int) ∧ ∃ (n50 : Int) (w51 : World), (Builtin.copy_ #[54, 54] 3 #[.slice (cutA s_a1 s_c3 ((IntKind.i64.wrap (i4 + (v_n6 : Int))).toNat) 2) (((IntKind.i64.wrap ((s_n2 : Int) + (v_n6 : Int))).toNat) - (IntKind.i64.wrap (i4 + (v_n6 : Int))).toNat) (s_c3 - (IntKind.i64.wrap (i4 + (v_n6 : Int))).toNat), .slice (cutA s_a1 s_c3 i4.toNat 2) (((IntKind.i64.wrap ((s_n2 : Int) + (v_n6 : Int))).toNat) - i4.toNat) (s_c3 - i4.toNat)]).run Try.prog w43.drew = .ok (.int .i64 n50) w51 ∧ (0 : Int) ≤ i4 ∧ i4 ≤ (((IntKind.i64.wrap ((s_n2 : Int) + (v_n6 : Int))).toNat : Nat) : Int) ∧ ∃ (n55 : Int) (w56 : World), (Builtin.copy_ #[54, 54] 3 #[.slice (cutA s_a1 s_c3 i4.toNat 2) (((IntKind.i64.wrap ((s_n2 : Int) + (v_n6 : Int))).toNat) - i4.toNat) (s_c3 - i4.toNat), .slice v_a5 v_n6 v_c7]).run Try.prog w51 = .ok (.int .i64 n55) w56 ∧ k (.slice s_a1 ((IntKind.i64.wrap ((s_n2 : Int) + (v_n6 : Int))).toNat) s_c3) w56
      else
        (0 : Int) ≤ (s_n2 : Int) ∧ (s_n2 : Int) ≤ (((IntKind.i64.wrap ((s_n2 : Int) + (v_n6 : Int))).toNat : Nat) : Int) ∧ ∃ (n60 : Int) (w61 : World), (Builtin.copy_ #[54, 54] 3 #[.slice (cutA s_a1 s_c3 ((s_n2 : Int).toNat) 2) (((IntKind.i64.wrap ((s_n2 : Int) + (v_n6 : Int))).toNat) - (s_n2 : Int).toNat) (s_c3 - (s_n2 : Int).toNat), .slice v_a5 v_n6 v_c7]).run Try.prog w43 = .ok (.int .i64 n60) w61 ∧ (0 : Int) ≤ i4 ∧ i4 ≤ (((IntKind.i64.wrap ((s_n2 : Int) + (v_n6 : Int))).toNat : Nat) : Int) ∧ Does Try.prog 36 #[.slice (cutA s_a1 s_c3 i4.toNat 2) (((IntKind.i64.wrap ((s_n2 : Int) + (v_n6 : Int))).toNat) - i4.toNat) (s_c3 - i4.toNat), .int .i64 (v_n6 : Int)] w61 (fun v w65 => v = .tuple #[] ∧ k (.slice s_a1 ((IntKind.i64.wrap ((s_n2 : Int) + (v_n6 : Int))).toNat) s_c3) w65)
set_option maxRecDepth 100000 in
set_option maxHeartbeats 2000000 in
theorem w34 (s_a1 : Option Addr) (s_n2 : Nat) (s_c3 : Nat) (i4 : Int) (v_a5 : Option Addr) (v_n6 : Nat) (v_c7 : Nat) (w8 : World) (k : Value → World → Prop) (h : F34 s_a1 s_n2 s_c3 i4 v_a5 v_n6 v_c7 w8 k) : Does Try.prog 34 #[.slice s_a1 s_n2 s_c3, .int .i64 i4, .slice v_a5 v_n6 v_c7] w8 k := by
  refine enter 95 Try.func34 rfl rfl rfl ?_
  intro ρ hρ
  have e0 := hρ 0 _ rfl
  have e1 := hρ 1 _ rfl
  have e2 := hρ 2 _ rfl
  unfold F34 at h
  refine WC_seq ?_
  refine WC_region ?_
  refine WL_val gd0 ((o_assign (v := .slice none 0 0) rfl) _) rfl ?_
  refine WL_nil ?_
  refine nrm ?_
  refine WC_seq ?_
  refine WC_region ?_
  refine WL_val gd0 ((o_move (v := .slice s_a1 s_n2 s_c3) (by exact e0)) _) rfl ?_
  refine WL_val gd0 ((o_move (v := .int .i64 i4) (by exact e1)) _) rfl ?_
  obtain ⟨c9, c10, h⟩ := h
  refine WL_val gd0 ((o_sliceL Try.underlying54 Try.sizeOf61 rfl rfl c9 c10) _) rfl ?_
  refine WL_nil ?_
  refine nrm ?_
  refine WC_seq ?_
  refine WC_region ?_
  refine WL_val gd0 ((o_move (v := .slice v_a5 v_n6 v_c7) (by exact e2)) _) rfl ?_
  refine WL_val gd0 ((o_len Try.underlying54 rfl) _) rfl ?_
  refine WL_val gd0 ((o_assign (v := .int .i64 (v_n6 : Int)) rfl) _) rfl ?_
  refine WL_nil ?_
  refine nrm ?_
  refine WC_seq ?_
  refine WC_seq ?_
  refine WC_region ?_
  refine WL_val gd0 ((o_move (v := .int .i64 (v_n6 : Int)) rfl) _) rfl ?_
  refine WL_val gd0 ((o_eql rfl rfl) _) rfl ?_
  refine WL_nil ?_
  refine nrm ?_
  refine WC_cond (t := (decide ((v_n6 : Int) = 0))) rfl (fun hb11 => ?_) (fun hb11 => ?_)
  · rw [if_pos (of_decide_eq_true hb11)] at h
    refine WC_seq ?_
    refine WC_region ?_
    refine WL_val gd0 ((o_move (v := .slice s_a1 s_n2 s_c3) (by exact e0)) _) rfl ?_
    refine WL_val gd0 ((o_assign (v := .slice s_a1 s_n2 s_c3) rfl) _) rfl ?_
    refine WL_nil ?_
    refine nrm ?_
    refine WC_ret ?_
    refine rtT ?_
    refine rtE ?_
    exact gv1 rfl rfl h
  · rw [if_neg (of_decide_eq_false hb11)] at h
    refine WC_skip ?_
    refine nrm ?_
    refine WC_seq ?_
    refine WC_region ?_
    refine WL_val gd0 ((o_move (v := .slice s_a1 s_n2 s_c3) (by exact e0)) _) rfl ?_
    refine WL_val gd0 ((o_len Try.underlying54 rfl) _) rfl ?_
    refine WL_val gd0 ((o_assign (v := .int .i64 (s_n2 : Int)) rfl) _) rfl ?_
    refine WL_nil ?_
    refine nrm ?_
    refine WC_seq ?_
    refine WC_seq ?_
    refine WC_region ?_
    refine WL_val gd0 ((o_move (v := .int .i64 i4) (by exact e1)) _) rfl ?_
    refine WL_val gd0 ((o_move (v := .int .i64 (s_n2 : Int)) rfl) _) rfl ?_
    refine WL_val gd0 ((o_eql rfl rfl) _) rfl ?_
    refine WL_nil ?_
    refine nrm ?_
    refine WC_cond (t := (decide (i4 = (s_n2 : Int)))) rfl (fun hb12 => ?_) (fun hb12 => ?_)
    · rw [if_pos (of_decide_eq_true hb12)] at h
      refine WC_seq ?_
      refine WC_region ?_
      refine WL_val gd0 ((o_move (v := .slice s_a1 s_n2 s_c3) (by exact e0)) _) rfl ?_
      refine WL_val gd0 ((o_move (v := .slice v_a5 v_n6 v_c7) (by exact e2)) _) rfl ?_
      obtain ⟨b_a13, b_n14, b_c15, w16, r17, h⟩ := h
      refine WL_val gd0 (o_append rfl rfl r17) rfl ?_
      refine WL_val gd0 ((o_assign (v := .slice b_a13 b_n14 b_c15) rfl) _) rfl ?_
      refine WL_nil ?_
      refine nrm ?_
      refine WC_ret ?_
      refine rtT ?_
      refine rtE ?_
      exact gv1 rfl rfl h
    · rw [if_neg (of_decide_eq_false hb12)] at h
      refine WC_skip ?_
      refine nrm ?_
      refine WC_seq ?_
      refine WC_seq ?_
      refine WC_region ?_
      refine WL_val gd0 ((o_move (v := .int .i64 (s_n2 : Int)) rfl) _) rfl ?_
      refine WL_val gd0 ((o_move (v := .int .i64 (v_n6 : Int)) rfl) _) rfl ?_
      refine WL_val gd0 ((o_add rfl rfl) _) rfl ?_
      refine WL_val gd0 ((o_move (v := .slice s_a1 s_n2 s_c3) (by exact e0)) _) rfl ?_
      refine WL_val gd0 ((o_cap Try.underlying54 rfl (fun w => by kernel_rfl)) _) rfl ?_
      refine WL_val gd0 ((o_gtr rfl rfl) _) rfl ?_
      refine WL_nil ?_
      refine nrm ?_
      refine WC_cond (t := (decide ((s_c3 : Int) < (IntKind.i64.wrap ((s_n2 : Int) + (v_n6 : Int)))))) rfl (fun hb18 => ?_) (fun hb18 => ?_)
      · rw [if_pos (of_decide_eq_true hb18)] at h
        refine WC_seq ?_
        refine WC_region ?_
        refine WL_val gd0 ((o_move (v := .slice s_a1 s_n2 s_c3) (by exact e0)) _) rfl ?_
        refine WL_val gd0 ((o_move (v := .int .i64 i4) (by exact e1)) _) rfl ?_
        obtain ⟨c19, c20, h⟩ := h
        refine WL_val gd0 ((o_sliceH Try.underlying54 Try.sizeOf61 rfl rfl c19 c20) _) rfl ?_
        refine WL_val gd0 ((o_move (v := .int .i64 (s_n2 : Int)) rfl) _) rfl ?_
        refine WL_val gd0 ((o_move (v := .int .i64 (v_n6 : Int)) rfl) _) rfl ?_
        refine WL_val gd0 ((o_add rfl rfl) _) rfl ?_
        refine WL_val gd0 ((o_move (v := .int .i64 i4) (by exact e1)) _) rfl ?_
        refine WL_val gd0 ((o_sub rfl rfl) _) rfl ?_
        obtain ⟨b_a21, b_n22, b_c23, w24, r25, h⟩ := h
        refine WL_val gd0 (o_append rfl rfl r25) rfl ?_
        refine WL_val gd0 ((o_assign (v := .slice b_a21 b_n22 b_c23) rfl) _) rfl ?_
        refine WL_nil ?_
        refine nrm ?_
        refine WC_seq ?_
        refine WC_region ?_
        refine WL_val gd0 ((o_move (v := .slice b_a21 b_n22 b_c23) rfl) _) rfl ?_
        refine WL_val gd0 ((o_move (v := .int .i64 i4) (by exact e1)) _) rfl ?_
        obtain ⟨c26, c27, h⟩ := h
        refine WL_val gd0 ((o_sliceL Try.underlying54 Try.sizeOf61 rfl rfl c26 c27) _) rfl ?_
        refine WL_val gd0 ((o_move (v := .slice v_a5 v_n6 v_c7) (by exact e2)) _) rfl ?_
        obtain ⟨n28, w29, r30, h⟩ := h
        refine WL_val gd0 (o_copy rfl rfl r30) rfl ?_
        refine WL_nil ?_
        refine nrm ?_
        refine WC_seq ?_
        refine WC_draws [8] (.look 0 (.look 1 (.look 2 (.look 3 (.look 4 (.look 5 (.look 6 (.look 7 (.act 8 .nil))))))))) Try.mixed (by kernel_rfl) ?_
        refine WQ_val rfl gd0 (o_move (v := .slice b_a21 b_n22 b_c23) rfl) rfl ?_
        refine WQ_val rfl gd0 (o_move (v := .int .i64 i4) (by exact e1)) rfl ?_
        refine WQ_val rfl gd0 (o_move (v := .int .i64 (v_n6 : Int)) rfl) rfl ?_
        refine WQ_val rfl gd0 (o_add rfl rfl) rfl ?_
        obtain ⟨c31, c32, h⟩ := h
        refine WQ_val rfl gd0 (o_sliceL Try.underlying54 Try.sizeOf61 rfl rfl c31 c32) rfl ?_
        refine WQ_val rfl gd0 (o_move (v := .slice s_a1 s_n2 s_c3) (by exact e0)) rfl ?_
        refine WQ_val rfl gd0 (o_move (v := .int .i64 i4) (by exact e1)) rfl ?_
        obtain ⟨c33, c34, h⟩ := h
        refine WQ_val rfl gd0 (o_sliceL Try.underlying54 Try.sizeOf61 rfl rfl c33 c34) rfl ?_
        obtain ⟨n35, w36, r37, h⟩ := h
        refine WQ_act rfl gd0 (o_copy rfl rfl r37) rfl (by exact trivial) ?_
        refine WQ_nil ?_
        refine nrm ?_
        refine WC_seq ?_
        refine WC_region ?_
        refine WL_val gd0 ((o_move (v := .slice b_a21 b_n22 b_c23) rfl) _) rfl ?_
        refine WL_val gd0 ((o_assign (v := .slice b_a21 b_n22 b_c23) rfl) _) rfl ?_
        refine WL_nil ?_
        refine nrm ?_
        refine WC_ret ?_
        refine rtT ?_
        refine rtE ?_
        exact gv1 rfl rfl h
      · rw [if_neg (of_decide_eq_false hb18)] at h
        refine WC_skip ?_
        refine nrm ?_
        refine WC_seq ?_
        refine WC_region ?_
        refine WL_val gd0 ((o_move (v := .slice s_a1 s_n2 s_c3) (by exact e0)) _) rfl ?_
        refine WL_val gd0 ((o_move (v := .int .i64 (s_n2 : Int)) rfl) _) rfl ?_
        refine WL_val gd0 ((o_move (v := .int .i64 (v_n6 : Int)) rfl) _) rfl ?_
        refine WL_val gd0 ((o_add rfl rfl) _) rfl ?_
        obtain ⟨c38, c39, h⟩ := h
        refine WL_val gd0 ((o_sliceH Try.underlying54 Try.sizeOf61 rfl rfl c38 c39) _) rfl ?_
        refine WL_val gd0 ((o_assign (v := .slice s_a1 ((IntKind.i64.wrap ((s_n2 : Int) + (v_n6 : Int))).toNat) s_c3) rfl) _) rfl ?_
        refine WL_nil ?_
        refine nrm ?_
        refine WC_seq ?_
        refine WC_seq ?_
        refine WC_region ?_
        refine WL_val gd0 ((o_move (v := .slice v_a5 v_n6 v_c7) (by exact e2)) _) rfl ?_
        refine WL_val gd0 ((o_move (v := .slice s_a1 ((IntKind.i64.wrap ((s_n2 : Int) + (v_n6 : Int))).toNat) s_c3) rfl) _) rfl ?_
        refine WL_val gd0 ((o_move (v := .int .i64 i4) (by exact e1)) _) rfl ?_
        refine WL_val gd0 ((o_move (v := .int .i64 (v_n6 : Int)) rfl) _) rfl ?_
        refine WL_val gd0 ((o_add rfl rfl) _) rfl ?_
        obtain ⟨c40, c41, h⟩ := h
        refine WL_val gd0 ((o_sliceL Try.underlying54 Try.sizeOf61 rfl rfl c40 c41) _) rfl ?_
        obtain ⟨x42, w43, r44, h⟩ := h
        refine WL_val gd0 (o_callExt (argCons rfl (argCons rfl argNil)) r44) rfl ?_
        refine WL_val gd0 ((o_not rfl) _) rfl ?_
        refine WL_nil ?_
        refine nrm ?_
        refine WC_cond (t := (!x42)) rfl (fun hb45 => ?_) (fun hb45 => ?_)
        · rw [if_pos hb45] at h
          refine WC_seq ?_
          refine WC_draws [8] (.look 0 (.look 1 (.look 2 (.look 3 (.look 4 (.look 5 (.look 6 (.look 7 (.act 8 .nil))))))))) Try.mixed (by kernel_rfl) ?_
          refine WQ_val rfl gd0 (o_move (v := .slice s_a1 ((IntKind.i64.wrap ((s_n2 : Int) + (v_n6 : Int))).toNat) s_c3) rfl) rfl ?_
          refine WQ_val rfl gd0 (o_move (v := .int .i64 i4) (by exact e1)) rfl ?_
          refine WQ_val rfl gd0 (o_move (v := .int .i64 (v_n6 : Int)) rfl) rfl ?_
          refine WQ_val rfl gd0 (o_add rfl rfl) rfl ?_
          obtain ⟨c46, c47, h⟩ := h
          refine WQ_val rfl gd0 (o_sliceL Try.underlying54 Try.sizeOf61 rfl rfl c46 c47) rfl ?_
          refine WQ_val rfl gd0 (o_move (v := .slice s_a1 ((IntKind.i64.wrap ((s_n2 : Int) + (v_n6 : Int))).toNat) s_c3) rfl) rfl ?_
          refine WQ_val rfl gd0 (o_move (v := .int .i64 i4) (by exact e1)) rfl ?_
          obtain ⟨c48, c49, h⟩ := h
          refine WQ_val rfl gd0 (o_sliceL Try.underlying54 Try.sizeOf61 rfl rfl c48 c49) rfl ?_
          obtain ⟨n50, w51, r52, h⟩ := h
          refine WQ_act rfl gd0 (o_copy rfl rfl r52) rfl (by exact trivial) ?_
          refine WQ_nil ?_
          refine nrm ?_
          refine WC_seq ?_
          refine WC_region ?_
          refine WL_val gd0 ((o_move (v := .slice s_a1 ((IntKind.i64.wrap ((s_n2 : Int) + (v_n6 : Int))).toNat) s_c3) rfl) _) rfl ?_
          refine WL_val gd0 ((o_move (v := .int .i64 i4) (by exact e1)) _) rfl ?_
          obtain ⟨c53, c54, h⟩ := h
          refine WL_val gd0 ((o_sliceL Try.underlying54 Try.sizeOf61 rfl rfl c53 c54) _) rfl ?_
          refine WL_val gd0 ((o_move (v := .slice v_a5 v_n6 v_c7) (by exact e2)) _) rfl ?_
          obtain ⟨n55, w56, r57, h⟩ := h
          refine WL_val gd0 (o_copy rfl rfl r57) rfl ?_
          refine WL_nil ?_
          refine nrm ?_
          refine WC_seq ?_
          refine WC_region ?_
          refine WL_val gd0 ((o_move (v := .slice s_a1 ((IntKind.i64.wrap ((s_n2 : Int) + (v_n6 : Int))).toNat) s_c3) rfl) _) rfl ?_
          refine WL_val gd0 ((o_assign (v := .slice s_a1 ((IntKind.i64.wrap ((s_n2 : Int) + (v_n6 : Int))).toNat) s_c3) rfl) _) rfl ?_
          refine WL_nil ?_
          refine nrm ?_
          refine WC_ret ?_
          refine rtT ?_
          refine rtE ?_
          exact gv1 rfl rfl h
        · rw [if_neg (neT hb45)] at h
          refine WC_skip ?_
          refine nrm ?_
          refine WC_seq ?_
          refine WC_region ?_
          refine WL_val gd0 ((o_move (v := .slice s_a1 ((IntKind.i64.wrap ((s_n2 : Int) + (v_n6 : Int))).toNat) s_c3) rfl) _) rfl ?_
          refine WL_val gd0 ((o_move (v := .int .i64 (s_n2 : Int)) rfl) _) rfl ?_
          obtain ⟨c58, c59, h⟩ := h
          refine WL_val gd0 ((o_sliceL Try.underlying54 Try.sizeOf61 rfl rfl c58 c59) _) rfl ?_
          refine WL_val gd0 ((o_move (v := .slice v_a5 v_n6 v_c7) (by exact e2)) _) rfl ?_
          obtain ⟨n60, w61, r62, h⟩ := h
          refine WL_val gd0 (o_copy rfl rfl r62) rfl ?_
          refine WL_nil ?_
          refine nrm ?_
          refine WC_seq ?_
          refine WC_region ?_
          refine WL_val gd0 ((o_move (v := .slice s_a1 ((IntKind.i64.wrap ((s_n2 : Int) + (v_n6 : Int))).toNat) s_c3) rfl) _) rfl ?_
          refine WL_val gd0 ((o_move (v := .int .i64 i4) (by exact e1)) _) rfl ?_
          obtain ⟨c63, c64, h⟩ := h
          refine WL_val gd0 ((o_sliceL Try.underlying54 Try.sizeOf61 rfl rfl c63 c64) _) rfl ?_
          refine WL_val gd0 ((o_move (v := .int .i64 (v_n6 : Int)) rfl) _) rfl ?_
          refine WL_call gd0 (o_call Try.call36 (argCons rfl (argCons rfl argNil)) _) rfl (h.mono ?_)
          rintro _ w65 ⟨rfl, h⟩
          refine WL_nil ?_
          refine nrm ?_
          refine WC_seq ?_
          refine WC_region ?_
          refine WL_val gd0 ((o_move (v := .slice s_a1 ((IntKind.i64.wrap ((s_n2 : Int) + (v_n6 : Int))).toNat) s_c3) rfl) _) rfl ?_
          refine WL_val gd0 ((o_assign (v := .slice s_a1 ((IntKind.i64.wrap ((s_n2 : Int) + (v_n6 : Int))).toNat) s_c3) rfl) _) rfl ?_
          refine WL_nil ?_
          refine nrm ?_
          refine WC_ret ?_
          refine rtE ?_
          exact gv1 rfl rfl h

/-- slices.rotateRight spacecraft queue.entry  -/
def F36 (s_a1 : Option Addr) (s_n2 : Nat) (s_c3 : Nat) (r4 : Int) (w5 : World) (k : Value → World → Prop) : Prop :=
  Does Try.prog 37 #[.slice s_a1 s_n2 s_c3, .int .i64 (IntKind.i64.wrap ((s_n2 : Int) - r4))] w5 (fun v w6 => v = .tuple #[] ∧ k (.tuple #[]) w6)
set_option maxRecDepth 100000 in
set_option maxHeartbeats 2000000 in
theorem w36 (s_a1 : Option Addr) (s_n2 : Nat) (s_c3 : Nat) (r4 : Int) (w5 : World) (k : Value → World → Prop) (h : F36 s_a1 s_n2 s_c3 r4 w5 k) : Does Try.prog 36 #[.slice s_a1 s_n2 s_c3, .int .i64 r4] w5 k := by
  refine enter 10 Try.func36 rfl rfl rfl ?_
  intro ρ hρ
  have e0 := hρ 0 _ rfl
  have e1 := hρ 1 _ rfl
  unfold F36 at h
  refine WC_region ?_
  refine WL_val gd0 ((o_move (v := .slice s_a1 s_n2 s_c3) (by exact e0)) _) rfl ?_
  refine WL_val gd0 ((o_move (v := .slice s_a1 s_n2 s_c3) (by exact e0)) _) rfl ?_
  refine WL_val gd0 ((o_len Try.underlying54 rfl) _) rfl ?_
  refine WL_val gd0 ((o_move (v := .int .i64 r4) (by exact e1)) _) rfl ?_
  refine WL_val gd0 ((o_sub rfl rfl) _) rfl ?_
  refine WL_call gd0 (o_call Try.call37 (argCons rfl (argCons rfl argNil)) _) rfl (h.mono ?_)
  rintro _ w6 ⟨rfl, h⟩
  refine WL_nil ?_
  refine ndE ?_
  exact gv0 rfl h

/-- slices.rotateLeft spacecraft queue.entry  -/
def F37 (s_a1 : Option Addr) (s_n2 : Nat) (s_c3 : Nat) (r4 : Int) (w5 : World) (k : Value → World → Prop) : Prop :=
  (0 : Int) ≤ r4 ∧ r4 ≤ (s_c3 : Int) ∧ Does Try.prog 38 #[.slice s_a1 r4.toNat s_c3] w5 (fun v w8 => v = .tuple #[] ∧ (0 : Int) ≤ r4 ∧ r4 ≤ (s_n2 : Int) ∧ Does Try.prog 38 #[.slice (cutA s_a1 s_c3 r4.toNat 2) (s_n2 - r4.toNat) (s_c3 - r4.toNat)] w8 (fun v w11 => v = .tuple #[] ∧ Does Try.prog 38 #[.slice s_a1 s_n2 s_c3] w11 (fun v w12 => v = .tuple #[] ∧ k (.tuple #[]) w12)))
set_option maxRecDepth 100000 in
set_option maxHeartbeats 2000000 in
theorem w37 (s_a1 : Option Addr) (s_n2 : Nat) (s_c3 : Nat) (r4 : Int) (w5 : World) (k : Value → World → Prop) (h : F37 s_a1 s_n2 s_c3 r4 w5 k) : Does Try.prog 37 #[.slice s_a1 s_n2 s_c3, .int .i64 r4] w5 k := by
  refine enter 14 Try.func37 rfl rfl rfl ?_
  intro ρ hρ
  have e0 := hρ 0 _ rfl
  have e1 := hρ 1 _ rfl
  unfold F37 at h
  refine WC_seq ?_
  refine WC_region ?_
  refine WL_val gd0 ((o_move (v := .slice s_a1 s_n2 s_c3) (by exact e0)) _) rfl ?_
  refine WL_val gd0 ((o_move (v := .int .i64 r4) (by exact e1)) _) rfl ?_
  obtain ⟨c6, c7, h⟩ := h
  refine WL_val gd0 ((o_sliceH Try.underlying54 Try.sizeOf61 rfl rfl c6 c7) _) rfl ?_
  refine WL_call gd0 (o_call Try.call38 (argCons rfl argNil) _) rfl (h.mono ?_)
  rintro _ w8 ⟨rfl, h⟩
  refine WL_nil ?_
  refine nrm ?_
  refine WC_seq ?_
  refine WC_region ?_
  refine WL_val gd0 ((o_move (v := .slice s_a1 s_n2 s_c3) (by exact e0)) _) rfl ?_
  refine WL_val gd0 ((o_move (v := .int .i64 r4) (by exact e1)) _) rfl ?_
  obtain ⟨c9, c10, h⟩ := h
  refine WL_val gd0 ((o_sliceL Try.underlying54 Try.sizeOf61 rfl rfl c9 c10) _) rfl ?_
  refine WL_call gd0 (o_call Try.call38 (argCons rfl argNil) _) rfl (h.mono ?_)
  rintro _ w11 ⟨rfl, h⟩
  refine WL_nil ?_
  refine nrm ?_
  refine WC_region ?_
  refine WL_val gd0 ((o_move (v := .slice s_a1 s_n2 s_c3) (by exact e0)) _) rfl ?_
  refine WL_call gd0 (o_call Try.call38 (argCons rfl argNil) _) rfl (h.mono ?_)
  rintro _ w12 ⟨rfl, h⟩
  refine WL_nil ?_
  refine ndE ?_
  exact gv0 rfl h

def F38_b1 (s_a1 : Option Addr) (s_n2 : Nat) (i7 : Int) (j9 : Int) (w10 : World) (nx10 : Int → Int → World → Prop) (k : Value → World → Prop) : Prop :=
  if i7 < j9 then
  ∃ (p15 : Addr), s_a1 = some p15 ∧ (0 : Int) ≤ j9 ∧ j9 < (s_n2 : Int) ∧ ∃ (x17 x18 : Int), Cells w10.drew (p15.add (j9.toNat * 2)) 0 [.int .i64 x17, .int .i64 x18] ∧ (0 : Int) ≤ i7 ∧ i7 < (s_n2 : Int) ∧ ∃ (x22 x23 : Int), Cells w10.drew (p15.add (i7.toNat * 2)) 0 [.int .i64 x22, .int .i64 x23] ∧ (0 : Int) ≤ i7 ∧ i7 < (s_n2 : Int) ∧ PutAll w10.drew (p15.add (i7.toNat * 2)) [.int .i64 x17, .int .i64 x18] (fun w27 => (0 : Int) ≤ j9 ∧ j9 < (s_n2 : Int) ∧ PutAll w27 (p15.add (j9.toNat * 2)) [.int .i64 x22, .int .i64 x23] (fun w31 => nx10 (IntKind.i64.wrap (i7 + 1)) (IntKind.i64.wrap (j9 - 1)) w31))
else
  k (.tuple #[]) w10
/-- slices.Reverse   spacecraft queue.entry,spacecraft queue.entry  -/
def F38 (s_a1 : Option Addr) (s_n2 : Nat) (s_c3 : Nat) (w4 : World) (k : Value → World → Prop) : Prop :=
  LoopP (fun (s : Int × Int) w' nx' => F38_b1 s_a1 s_n2 (s.1) (s.2) w' (fun x0 x1 w => nx' (x0, x1) w) k) (0, (IntKind.i64.wrap ((s_n2 : Int) - 1))) w4
set_option maxRecDepth 100000 in
set_option maxHeartbeats 2000000 in
theorem w38 (s_a1 : Option Addr) (s_n2 : Nat) (s_c3 : Nat) (w4 : World) (k : Value → World → Prop) (h : F38 s_a1 s_n2 s_c3 w4 k) : Does Try.prog 38 #[.slice s_a1 s_n2 s_c3] w4 k := by
  refine enter 28 Try.func38 rfl rfl rfl ?_
  intro ρ hρ
  have e0 := hρ 0 _ rfl
  unfold F38 at h
  refine WC_seq ?_
  refine WC_region ?_
  refine WL_val gd0 ((o_move (v := .slice s_a1 s_n2 s_c3) (by exact e0)) _) rfl ?_
  refine WL_val gd0 ((o_len Try.underlying54 rfl) _) rfl ?_
  refine WL_val gd0 ((o_sub rfl rfl) _) rfl ?_
  refine WL_val gd0 ((o_assign (v := .int .i64 0) rfl) _) rfl ?_
  refine WL_val gd0 ((o_assign (v := .int .i64 (IntKind.i64.wrap ((s_n2 : Int) - 1))) rfl) _) rfl ?_
  refine WL_nil ?_
  refine nrm ?_
  refine WC_block ?_
  obtain ⟨J10, ⟨n10, h0⟩, hr10⟩ := h
  refine WC_loop (fun n ρ w' => ∃ (i7 j9 : Int), ρ 2 = .int .i64 i7 ∧ ρ 3 = .int .i64 j9 ∧ ρ 0 = .slice s_a1 s_n2 s_c3 ∧ J10 n (i7, j9) w') ⟨n10, _, _, rfl, rfl, e0, h0⟩ ?_
  rintro n10 ρ w10 ⟨i7, j9, e2_6, e3_8, e0_5, h⟩
  have h : F38_b1 s_a1 s_n2 i7 j9 w10 (fun x0 x1 w => ∃ m, m < n10 ∧ J10 m (x0, x1) w) k := hr10 n10 (i7, j9) w10 h
  unfold F38_b1 at h
  refine WC_seq ?_
  refine WC_seq ?_
  refine WC_region ?_
  refine WL_val gd0 ((o_move (v := .int .i64 i7) (by exact e2_6)) _) rfl ?_
  refine WL_val gd0 ((o_move (v := .int .i64 j9) (by exact e3_8)) _) rfl ?_
  refine WL_val gd0 ((o_lss rfl rfl) _) rfl ?_
  refine WL_nil ?_
  refine nrm ?_
  refine WC_cond (t := (decide (i7 < j9))) rfl (fun hb12 => ?_) (fun hb12 => ?_)
  · rw [if_pos (of_decide_eq_true hb12)] at h
    refine WC_skip ?_
    refine nrm ?_
    refine WC_seq ?_
    refine WC_block ?_
    refine WC_draws [13, 15] (.look 0 (.look 1 (.look 2 (.look 3 (.look 4 (.look 5 (.look 6 (.look 7 (.look 8 (.look 9 (.look 10 (.look 11 (.look 12 (.act 13 (.look 14 (.act 15 .nil)))))))))))))))) Try.mixed (by kernel_rfl) ?_
    refine WQ_val rfl gd0 (o_move (v := .slice s_a1 s_n2 s_c3) (by exact e0_5)) rfl ?_
    refine WQ_val rfl gd0 (o_move (v := .int .i64 i7) (by exact e2_6)) rfl ?_
    refine WQ_val rfl gd0 (o_move (v := .slice s_a1 s_n2 s_c3) (by exact e0_5)) rfl ?_
    refine WQ_val rfl gd0 (o_move (v := .int .i64 j9) (by exact e3_8)) rfl ?_
    refine WQ_val rfl gd0 (o_move (v := .slice s_a1 s_n2 s_c3) (by exact e0_5)) rfl ?_
    refine WQ_val rfl gd0 (o_move (v := .int .i64 j9) (by exact e3_8)) rfl ?_
    obtain ⟨p15, q16, h⟩ := h
    obtain ⟨l13, u14, h⟩ := h
    refine WQ_val rfl gd0 (o_indexAddr Try.underlying54 Try.sizeOf61 (by exact (congrArg (fun z => Value.slice z s_n2 s_c3) q16)) rfl l13 u14) rfl ?_
    obtain ⟨x17, x18, hc19, h⟩ := h
    refine WQ_look (fun w => Cells w (p15.add (j9.toNat * 2)) 0 [.int .i64 x17, .int .i64 x18]) rfl gd0 (fun w hc => (o_loadAgg (vs := [.int .i64 x17, .int .i64 x18]) Try.isAgg61 Try.sizeOf61 rfl hc)) hc19 rfl ?_
    refine WQ_val rfl gd0 (o_move (v := .slice s_a1 s_n2 s_c3) (by exact e0_5)) rfl ?_
    refine WQ_val rfl gd0 (o_move (v := .int .i64 i7) (by exact e2_6)) rfl ?_
    obtain ⟨l20, u21, h⟩ := h
    refine WQ_val rfl gd0 (o_indexAddr Try.underlying54 Try.sizeOf61 (by exact (congrArg (fun z => Value.slice z s_n2 s_c3) q16)) rfl l20 u21) rfl ?_
    obtain ⟨x22, x23, hc24, h⟩ := h
    refine WQ_look (fun w => Cells w (p15.add (i7.toNat * 2)) 0 [.int .i64 x22, .int .i64 x23]) rfl gd0 (fun w hc => (o_loadAgg (vs := [.int .i64 x22, .int .i64 x23]) Try.isAgg61 Try.sizeOf61 rfl hc)) hc24 rfl ?_
    obtain ⟨l25, u26, h⟩ := h
    refine WQ_val rfl gd0 (o_indexAddr Try.underlying54 Try.sizeOf61 (by exact (congrArg (fun z => Value.slice z s_n2 s_c3) q16)) rfl l25 u26) rfl ?_
    obtain ⟨c28, h⟩ := h
    refine WQ_do rfl gd0 (o_storeAgg (vs := [.int .i64 x17, .int .i64 x18]) Try.sizeOf61 rfl rfl rfl c28) (by exact ⟨⟨trivial, depT (by kernel_rfl)⟩, depT (by kernel_rfl)⟩) ?_
    generalize hw27 : setAll w10.drew (p15.add (i7.toNat * 2)) 0 [.int .i64 x17, .int .i64 x18] = w27 at h ⊢
    try dsimp only at h
    obtain ⟨l29, u30, h⟩ := h
    refine WQ_val rfl gd0 (o_indexAddr Try.underlying54 Try.sizeOf61 (by exact (congrArg (fun z => Value.slice z s_n2 s_c3) q16)) rfl l29 u30) rfl ?_
    obtain ⟨c32, h⟩ := h
    refine WQ_do rfl gd0 (o_storeAgg (vs := [.int .i64 x22, .int .i64 x23]) Try.sizeOf61 rfl rfl rfl c32) (by exact ⟨⟨trivial, depT (by kernel_rfl)⟩, depT (by kernel_rfl)⟩) ?_
    generalize hw31 : setAll w27 (p15.add (j9.toNat * 2)) 0 [.int .i64 x22, .int .i64 x23] = w31 at h ⊢
    try dsimp only at h
    refine WQ_nil ?_
    refine nrmB ?_
    refine nrm ?_
    refine WC_region ?_
    refine WL_val gd0 ((o_move (v := .int .i64 i7) (by exact e2_6)) _) rfl ?_
    refine WL_val gd0 ((o_add rfl rfl) _) rfl ?_
    refine WL_val gd0 ((o_move (v := .int .i64 j9) (by exact e3_8)) _) rfl ?_
    refine WL_val gd0 ((o_sub rfl rfl) _) rfl ?_
    refine WL_val gd0 ((o_assign (v := .int .i64 (IntKind.i64.wrap (i7 + 1))) rfl) _) rfl ?_
    refine WL_val gd0 ((o_assign (v := .int .i64 (IntKind.i64.wrap (j9 - 1))) rfl) _) rfl ?_
    refine WL_nil ?_
    refine nrm ?_
    obtain ⟨m11, hm11, h⟩ := h
    exact ⟨m11, hm11, _, _, rfl, rfl, e0_5, h⟩
  · rw [if_neg (of_decide_eq_false hb12)] at h
    refine WC_exit ?_
    refine exT ?_
    refine exT ?_
    refine exB ?_
    refine ndE ?_
    exact gv0 rfl h


end Go.Proofs.Ytcfppdbinkoobaa
