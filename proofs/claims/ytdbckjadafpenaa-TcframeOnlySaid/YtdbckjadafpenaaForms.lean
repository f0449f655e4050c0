/-
  The forms of the functions, and their walks: written by a program of this claim (gen.py) off the elaborated translation.
-/
import Derived.Test.YtdbckjadafpenaaProg
import Derived.Test.YtdbckjadafpenaaBase
import Derived.KernelRfl
import Derived.Test.YtdbckjadafpenaaFormsP0
namespace Go.Proofs.Ytdbckjadafpenaa
open Go Go.Sh Go.Proofs
set_option linter.unusedVariables false
def F16_j2 (p5 : Addr) (p68 : Addr) (t87 : Bool) (w88 : World) (k : Value → World → Prop) : Prop :=
  if t87 = true then
  PutAll w88 p5 [.bool false, .bool false, .int .i64 0, .int .i64 0, .int .i64 0, .slice none 0 0] (fun w90 => ∃ (r92 r93 : Bool) (r94 r95 r96 : Int) (r_a97 : Option Addr) (r_n98 r_c99 : Nat), Cells w90 p5 0 [.bool r92, .bool r93, .int .i64 r94, .int .i64 r95, .int .i64 r96, .slice r_a97 r_n98 r_c99] ∧ k (.tuple #[.agg #[.bool r92, .bool r93, .int .i64 r94, .int .i64 r95, .int .i64 r96, .slice r_a97 r_n98 r_c99], .int .i64 4]) w90)
else
  ∃ (x101 x102 : Bool) (x103 x104 x105 : Int) (x_a106 : Option Addr) (x_n107 x_c108 : Nat), Cells w88 p68 0 [.bool x101, .bool x102, .int .i64 x103, .int .i64 x104, .int .i64 x105, .slice x_a106 x_n107 x_c108] ∧ PutAll w88 p5 [.bool x101, .bool x102, .int .i64 x103, .int .i64 x104, .int .i64 x105, .slice x_a106 x_n107 x_c108] (fun w110 => ∃ (r112 r113 : Bool) (r114 r115 r116 : Int) (r_a117 : Option Addr) (r_n118 r_c119 : Nat), Cells w110 p5 0 [.bool r112, .bool r113, .int .i64 r114, .int .i64 r115, .int .i64 r116, .slice r_a117 r_n118 r_c119] ∧ k (.tuple #[.agg #[.bool r112, .bool r113, .int .i64 r114, .int .i64 r115, .int .i64 r116, .slice r_a117 r_n118 r_c119], .int .i64 0]) w110)
def F16_j1 (p5 : Addr) (b_a1 : Option Addr) (b_n2 : Nat) (b_c3 : Nat) (f66 : Option Addr) (w67 : World) (k : Value → World → Prop) : Prop :=
  ∃ (p68 : Addr), f66 = some p68 ∧ ∃ (x70 x71 : Bool) (x72 x73 x74 : Int) (x_a75 : Option Addr) (x_n76 x_c77 : Nat), Cells w67 p68 0 [.bool x70, .bool x71, .int .i64 x72, .int .i64 x73, .int .i64 x74, .slice x_a75 x_n76 x_c77] ∧ Does Try.prog 10 #[.agg #[.bool x70, .bool x71, .int .i64 x72, .int .i64 x73, .int .i64 x74, .slice x_a75 x_n76 x_c77]] w67 (fun v w79 => ∃ (r_a80 : Option Addr) (r_n81 r_c82 : Nat) (r83 : Int), v = .tuple #[.slice r_a80 r_n81 r_c82, .int .i64 r83] ∧ if r83 ≠ 0 then
  F16_j2 p5 p68 true w79 k
else
  ∃ (s122 : ByteArray), (Conv.bytesToString (.slice r_a80 r_n81 r_c82)).run Try.prog w79 = .ok (.string s122) w79 ∧ ∃ (s124 : ByteArray), (Conv.bytesToString (.slice b_a1 b_n2 b_c3)).run Try.prog w79 = .ok (.string s124) w79 ∧ F16_j2 p5 p68 (!(s122.toList == s124.toList)) w79 k)
/-- spacecraft spacecraftref14.Decode -/
def F16 (b_a1 : Option Addr) (b_n2 : Nat) (b_c3 : Nat) (w4 : World) (k : Value → World → Prop) : Prop :=
  New w4 24 [.bool false, .bool false, .int .i64 0, .int .i64 0, .int .i64 0, .slice none 0 0] (fun p5 w6 => if (b_n2 : Int) < 8 then
  PutAll w6 p5 [.bool false, .bool false, .int .i64 0, .int .i64 0, .int .i64 0, .slice none 0 0] (fun w8 => ∃ (r10 r11 : Bool) (r12 r13 r14 : Int) (r_a15 : Option Addr) (r_n16 r_c17 : Nat), Cells w8 p5 0 [.bool r10, .bool r11, .int .i64 r12, .int .i64 r13, .int .i64 r14, .slice r_a15 r_n16 r_c17] ∧ k (.tuple #[.agg #[.bool r10, .bool r11, .int .i64 r12, .int .i64 r13, .int .i64 r14, .slice r_a15 r_n16 r_c17], .int .i64 3]) w8)
else
  if 1024 < (b_n2 : Int) then
    PutAll w6 p5 [.bool false, .bool false, .int .i64 0, .int .i64 0, .int .i64 0, .slice none 0 0] (fun w20 => ∃ (r22 r23 : Bool) (r24 r25 r26 : Int) (r_a27 : Option Addr) (r_n28 r_c29 : Nat), Cells w20 p5 0 [.bool r22, .bool r23, .int .i64 r24, .int .i64 r25, .int .i64 r26, .slice r_a27 r_n28 r_c29] ∧ k (.tuple #[.agg #[.bool r22, .bool r23, .int .i64 r24, .int .i64 r25, .int .i64 r26, .slice r_a27 r_n28 r_c29], .int .i64 6]) w20)
  else
    Does Try.prog 30 #[.slice b_a1 b_n2 b_c3] w6 (fun v w31 => ∃ (x32 : Bool), v = .bool x32 ∧ if (!x32) = true then
      PutAll w31 p5 [.bool false, .bool false, .int .i64 0, .int .i64 0, .int .i64 0, .slice none 0 0] (fun w34 => ∃ (r36 r37 : Bool) (r38 r39 r40 : Int) (r_a41 : Option Addr) (r_n42 r_c43 : Nat), Cells w34 p5 0 [.bool r36, .bool r37, .int .i64 r38, .int .i64 r39, .int .i64 r40, .slice r_a41 r_n42 r_c43] ∧ k (.tuple #[.agg #[.bool r36, .bool r37, .int .i64 r38, .int .i64 r39, .int .i64 r40, .slice r_a41 r_n42 r_c43], .int .i64 5]) w34)
    else
      ∃ (p47 : Addr), b_a1 = some p47 ∧ (0 : Int) ≤ 0 ∧ 0 < (b_n2 : Int) ∧ ∃ (x49 : Int), w31.drew.cell? (p47.add ((0 : Int).toNat)) = some (.int .u8 x49) ∧ (0 : Int) ≤ 1 ∧ 1 < (b_n2 : Int) ∧ ∃ (x53 : Int), w31.drew.cell? (p47.add ((1 : Int).toNat)) = some (.int .u8 x53) ∧ (0 : Int) ≤ 2 ∧ 2 < (b_n2 : Int) ∧ ∃ (x57 : Int), w31.drew.drew.cell? (p47.add ((2 : Int).toNat)) = some (.int .u8 x57) ∧ (0 : Int) ≤ 3 ∧ 3 < (b_n2 : Int) ∧ ∃ (x61 : Int), w31.drew.drew.cell? (p47.add ((3 : Int).toNat)) = some (.int .u8 x61) ∧ (0 : Int) ≤ 4 ∧ 4 < (b_n2 : Int) ∧ ∃ (x128 : Int), w31.drew.drew.drew.cell? (p47.add ((4 : Int).toNat)) = some (.int .u8 x128) ∧ (0 : Int) ≤ 5 ∧ 5 ≤ (IntKind.i64.wrap ((b_n2 : Int) - 2) : Int) ∧ IntKind.i64.wrap ((b_n2 : Int) - 2) ≤ (b_c3 : Int) ∧ (New w31.drew.drew.drew 5 [] (fun p133 w134 => w134.cell? (p47.add ((4 : Int).toNat)) = some (.int .u8 x128) ∧ (∃ (b_a136 : Option Addr) (b_n137 b_c138 : Nat) (w139 : World), (Builtin.append_ #[22, 22] 22 #[.slice (some p133) 0 0, .slice (cutA b_a1 b_c3 ((5 : Int).toNat) 1) ((IntKind.i64.wrap ((b_n2 : Int) - 2)).toNat - (5 : Int).toNat) (b_c3 - (5 : Int).toNat)]).run Try.prog w134 = .ok (.slice b_a136 b_n137 b_c138) w139 ∧ w139.cell? (p47.add ((4 : Int).toNat)) = some (.int .u8 x128) ∧ New w139 24 [.bool false, .bool false, .int .i64 0, .int .i64 0, .int .i64 0, .slice none 0 0] (fun p142 w143 => w143.cell? (p47.add ((4 : Int).toNat)) = some (.int .u8 x128) ∧ PutAll w143 p142 [.bool (decide ((Int.tmod (shr .i64 (IntKind.i64.wrap ((IntKind.i64.wrap ((IntKind.i64.wrap x49) * 256)) + (IntKind.i64.wrap x53))) 13) 2) = 1)), .bool (decide ((Int.tmod (shr .i64 (IntKind.i64.wrap ((IntKind.i64.wrap ((IntKind.i64.wrap x49) * 256)) + (IntKind.i64.wrap x53))) 12) 2) = 1)), .int .i64 (Int.tmod (IntKind.i64.wrap ((IntKind.i64.wrap ((IntKind.i64.wrap x49) * 256)) + (IntKind.i64.wrap x53))) 1024), .int .i64 (IntKind.i64.wrap (Int.tdiv (IntKind.i64.wrap ((IntKind.i64.wrap ((IntKind.i64.wrap x57) * 256)) + (IntKind.i64.wrap x61))) 1024)), .int .i64 (IntKind.i64.wrap x128), .slice b_a136 b_n137 b_c138] (fun w145 => F16_j1 p5 b_a1 b_n2 b_c3 (some p142) w145 k))) ∧ (New w134 24 [.bool false, .bool false, .int .i64 0, .int .i64 0, .int .i64 0, .slice none 0 0] (fun p147 w148 => w148.cell? (p47.add ((4 : Int).toNat)) = some (.int .u8 x128) ∧ ∃ (b_a150 : Option Addr) (b_n151 b_c152 : Nat) (w153 : World), (Builtin.append_ #[22, 22] 22 #[.slice (some p133) 0 0, .slice (cutA b_a1 b_c3 ((5 : Int).toNat) 1) ((IntKind.i64.wrap ((b_n2 : Int) - 2)).toNat - (5 : Int).toNat) (b_c3 - (5 : Int).toNat)]).run Try.prog w148 = .ok (.slice b_a150 b_n151 b_c152) w153 ∧ w153.cell? (p47.add ((4 : Int).toNat)) = some (.int .u8 x128) ∧ PutAll w153 p147 [.bool (decide ((Int.tmod (shr .i64 (IntKind.i64.wrap ((IntKind.i64.wrap ((IntKind.i64.wrap x49) * 256)) + (IntKind.i64.wrap x53))) 13) 2) = 1)), .bool (decide ((Int.tmod (shr .i64 (IntKind.i64.wrap ((IntKind.i64.wrap ((IntKind.i64.wrap x49) * 256)) + (IntKind.i64.wrap x53))) 12) 2) = 1)), .int .i64 (Int.tmod (IntKind.i64.wrap ((IntKind.i64.wrap ((IntKind.i64.wrap x49) * 256)) + (IntKind.i64.wrap x53))) 1024), .int .i64 (IntKind.i64.wrap (Int.tdiv (IntKind.i64.wrap ((IntKind.i64.wrap ((IntKind.i64.wrap x57) * 256)) + (IntKind.i64.wrap x61))) 1024)), .int .i64 (IntKind.i64.wrap x128), .slice b_a150 b_n151 b_c152] (fun w156 => F16_j1 p5 b_a1 b_n2 b_c3 (some p147) w156 k))))) ∧ (New w31.drew.drew.drew 24 [.bool false, .bool false, .int .i64 0, .int .i64 0, .int .i64 0, .slice none 0 0] (fun p159 w160 => w160.cell? (p47.add ((4 : Int).toNat)) = some (.int .u8 x128) ∧ New w160 5 [] (fun p162 w163 => w163.cell? (p47.add ((4 : Int).toNat)) = some (.int .u8 x128) ∧ ∃ (b_a165 : Option Addr) (b_n166 b_c167 : Nat) (w168 : World), (Builtin.append_ #[22, 22] 22 #[.slice (some p162) 0 0, .slice (cutA b_a1 b_c3 ((5 : Int).toNat) 1) ((IntKind.i64.wrap ((b_n2 : Int) - 2)).toNat - (5 : Int).toNat) (b_c3 - (5 : Int).toNat)]).run Try.prog w163 = .ok (.slice b_a165 b_n166 b_c167) w168 ∧ w168.cell? (p47.add ((4 : Int).toNat)) = some (.int .u8 x128) ∧ PutAll w168 p159 [.bool (decide ((Int.tmod (shr .i64 (IntKind.i64.wrap ((IntKind.i64.wrap ((IntKind.i64.wrap x49) * 256)) + (IntKind.i64.wrap x53))) 13) 2) = 1)), .bool (decide ((Int.tmod (shr .i64 (IntKind.i64.wrap ((IntKind.i64.wrap ((IntKind.i64.wrap x49) * 256)) + (IntKind.i64.wrap x53))) 12) 2) = 1)), .int .i64 (Int.tmod (IntKind.i64.wrap ((IntKind.i64.wrap ((IntKind.i64.wrap x49) * 256)) + (IntKind.i64.wrap x53))) 1024), .int .i64 (IntKind.i64.wrap (Int.tdiv (IntKind.i64.wrap ((IntKind.i64.wrap ((IntKind.i64.wrap x57) * 256)) + (IntKind.i64.wrap x61))) 1024)), .int .i64 (IntKind.i64.wrap x128), .slice b_a165 b_n166 b_c167] (fun w171 => F16_j1 p5 b_a1 b_n2 b_c3 (some p159) w171 k))))))
set_option maxRecDepth 100000 in
set_option maxHeartbeats 2000000 in
theorem w16 (b_a1 : Option Addr) (b_n2 : Nat) (b_c3 : Nat) (w4 : World) (k : Value → World → Prop) (h : F16 b_a1 b_n2 b_c3 w4 k) : Does Try.prog 16 #[.slice b_a1 b_n2 b_c3] w4 k := by
  refine enter 81 Try.func16 rfl rfl rfl ?_
  intro ρ hρ
  have e0 := hρ 0 _ rfl
  unfold F16 at h
  refine WC_seq ?_
  refine WC_region ?_
  have h := New.out h
  refine WL_val gd0 (o_alloc (z := .agg #[.bool false, .bool false, .int .i64 0, .int .i64 0, .int .i64 0, .slice none 0 0]) (cs := [.bool false, .bool false, .int .i64 0, .int .i64 0, .int .i64 0, .slice none 0 0]) Try.zeroValue24 rfl) rfl ?_
  generalize hp5 : fresh w4 = p5 at h ⊢
  generalize hw6 : push w4 24 [.bool false, .bool false, .int .i64 0, .int .i64 0, .int .i64 0, .slice none 0 0] = w6 at h ⊢
  try dsimp only at h
  refine WL_val gd0 ((o_assign (v := .int .i64 0) rfl) _) rfl ?_
  refine WL_nil ?_
  refine nrm ?_
  refine WC_seq ?_
  refine WC_seq ?_
  refine WC_region ?_
  refine WL_val gd0 ((o_move (v := .slice b_a1 b_n2 b_c3) (by exact e0)) _) rfl ?_
  refine WL_val gd0 ((o_len Try.underlying22 rfl) _) rfl ?_
  refine WL_val gd0 ((o_lss rfl rfl) _) rfl ?_
  refine WL_nil ?_
  refine nrm ?_
  refine WC_cond (t := (decide ((b_n2 : Int) < 8))) rfl (fun hb7 => ?_) (fun hb7 => ?_)
  · rw [if_pos (of_decide_eq_true hb7)] at h
    refine WC_seq ?_
    refine WC_region ?_
    refine WL_val gd0 ((o_build (ps := []) (v := .agg #[.bool false, .bool false, .int .i64 0, .int .i64 0, .int .i64 0, .slice none 0 0]) partNil (fun w => by kernel_rfl)) _) rfl ?_
    obtain ⟨c9, h⟩ := h
    refine WL_act gd0 (o_storeAgg (vs := [.bool false, .bool false, .int .i64 0, .int .i64 0, .int .i64 0, .slice none 0 0]) Try.sizeOf24 rfl rfl rfl c9) ?_
    generalize hw8 : setAll w6 p5 0 [.bool false, .bool false, .int .i64 0, .int .i64 0, .int .i64 0, .slice none 0 0] = w8 at h ⊢
    try dsimp only at h
    refine WL_val gd0 ((o_assign (v := .int .i64 3) rfl) _) rfl ?_
    refine WL_nil ?_
    refine nrm ?_
    refine WC_ret ?_
    refine rtT ?_
    refine rtE ?_
    obtain ⟨r10, r11, r12, r13, r14, r_a15, r_n16, r_c17, hc18, h⟩ := h
    exact gvC1 (vs := [.bool r10, .bool r11, .int .i64 r12, .int .i64 r13, .int .i64 r14, .slice r_a15 r_n16 r_c17]) rfl Try.isAgg24 Try.sizeOf24 rfl hc18 rfl h
  · rw [if_neg (of_decide_eq_false hb7)] at h
    refine WC_skip ?_
    refine nrm ?_
    refine WC_seq ?_
    refine WC_seq ?_
    refine WC_region ?_
    refine WL_val gd0 ((o_move (v := .slice b_a1 b_n2 b_c3) (by exact e0)) _) rfl ?_
    refine WL_val gd0 ((o_len Try.underlying22 rfl) _) rfl ?_
    refine WL_val gd0 ((o_gtr rfl rfl) _) rfl ?_
    refine WL_nil ?_
    refine nrm ?_
    refine WC_cond (t := (decide (1024 < (b_n2 : Int)))) rfl (fun hb19 => ?_) (fun hb19 => ?_)
    · rw [if_pos (of_decide_eq_true hb19)] at h
      refine WC_seq ?_
      refine WC_region ?_
      refine WL_val gd0 ((o_build (ps := []) (v := .agg #[.bool false, .bool false, .int .i64 0, .int .i64 0, .int .i64 0, .slice none 0 0]) partNil (fun w => by kernel_rfl)) _) rfl ?_
      obtain ⟨c21, h⟩ := h
      refine WL_act gd0 (o_storeAgg (vs := [.bool false, .bool false, .int .i64 0, .int .i64 0, .int .i64 0, .slice none 0 0]) Try.sizeOf24 rfl rfl rfl c21) ?_
      generalize hw20 : setAll w6 p5 0 [.bool false, .bool false, .int .i64 0, .int .i64 0, .int .i64 0, .slice none 0 0] = w20 at h ⊢
      try dsimp only at h
      refine WL_val gd0 ((o_assign (v := .int .i64 6) rfl) _) rfl ?_
      refine WL_nil ?_
      refine nrm ?_
      refine WC_ret ?_
      refine rtT ?_
      refine rtE ?_
      obtain ⟨r22, r23, r24, r25, r26, r_a27, r_n28, r_c29, hc30, h⟩ := h
      exact gvC1 (vs := [.bool r22, .bool r23, .int .i64 r24, .int .i64 r25, .int .i64 r26, .slice r_a27 r_n28 r_c29]) rfl Try.isAgg24 Try.sizeOf24 rfl hc30 rfl h
    · rw [if_neg (of_decide_eq_false hb19)] at h
      refine WC_skip ?_
      refine nrm ?_
      refine WC_seq ?_
      refine WC_seq ?_
      refine WC_region ?_
      refine WL_val gd0 ((o_move (v := .slice b_a1 b_n2 b_c3) (by exact e0)) _) rfl ?_
      refine WL_call gd0 (o_call Try.call30 (argCons rfl argNil) _) rfl (h.mono ?_)
      rintro _ w31 ⟨x32, rfl, h⟩
      refine WL_val gd0 ((o_not rfl) _) rfl ?_
      refine WL_nil ?_
      refine nrm ?_
      refine WC_cond (t := (!x32)) rfl (fun hb33 => ?_) (fun hb33 => ?_)
      · rw [if_pos hb33] at h
        refine WC_seq ?_
        refine WC_region ?_
        refine WL_val gd0 ((o_build (ps := []) (v := .agg #[.bool false, .bool false, .int .i64 0, .int .i64 0, .int .i64 0, .slice none 0 0]) partNil (fun w => by kernel_rfl)) _) rfl ?_
        obtain ⟨c35, h⟩ := h
        refine WL_act gd0 (o_storeAgg (vs := [.bool false, .bool false, .int .i64 0, .int .i64 0, .int .i64 0, .slice none 0 0]) Try.sizeOf24 rfl rfl rfl c35) ?_
        generalize hw34 : setAll w31 p5 0 [.bool false, .bool false, .int .i64 0, .int .i64 0, .int .i64 0, .slice none 0 0] = w34 at h ⊢
        try dsimp only at h
        refine WL_val gd0 ((o_assign (v := .int .i64 5) rfl) _) rfl ?_
        refine WL_nil ?_
        refine nrm ?_
        refine WC_ret ?_
        refine rtT ?_
        refine rtE ?_
        obtain ⟨r36, r37, r38, r39, r40, r_a41, r_n42, r_c43, hc44, h⟩ := h
        exact gvC1 (vs := [.bool r36, .bool r37, .int .i64 r38, .int .i64 r39, .int .i64 r40, .slice r_a41 r_n42 r_c43]) rfl Try.isAgg24 Try.sizeOf24 rfl hc44 rfl h
      · rw [if_neg (neT hb33)] at h
        refine WC_skip ?_
        refine nrm ?_
        refine WC_seq ?_
        refine WC_draws [] (.look 0 (.look 1 (.look 2 (.look 3 (.look 4 (.look 5 (.look 6 (.look 7 (.look 8 (.look 9 (.look 10 .nil))))))))))) Try.mixed (by kernel_rfl) ?_
        refine WQ_val rfl gd0 (o_move (v := .slice b_a1 b_n2 b_c3) (by exact e0)) rfl ?_
        obtain ⟨p47, q48, h⟩ := h
        obtain ⟨l45, u46, h⟩ := h
        refine WQ_val rfl gd0 (o_indexAddr1 Try.underlying22 Try.sizeOf5 (by exact (congrArg (fun z => Value.slice z b_n2 b_c3) q48)) rfl l45 u46) rfl ?_
        obtain ⟨x49, hc50, h⟩ := h
        refine WQ_look (fun w => w.cell? (p47.add ((0 : Int).toNat)) = some (.int .u8 x49)) rfl gd0 (fun w hc => (o_load Try.isAgg5 rfl hc)) hc50 rfl ?_
        refine WQ_val rfl gd0 (o_conv Try.underlying5 Try.underlying3 rfl) rfl ?_
        refine WQ_val rfl gd0 (o_mul rfl rfl) rfl ?_
        refine WQ_val rfl gd0 (o_move (v := .slice b_a1 b_n2 b_c3) (by exact e0)) rfl ?_
        obtain ⟨l51, u52, h⟩ := h
        refine WQ_val rfl gd0 (o_indexAddr1 Try.underlying22 Try.sizeOf5 (by exact (congrArg (fun z => Value.slice z b_n2 b_c3) q48)) rfl l51 u52) rfl ?_
        obtain ⟨x53, hc54, h⟩ := h
        refine WQ_look (fun w => w.cell? (p47.add ((1 : Int).toNat)) = some (.int .u8 x53)) rfl gd0 (fun w hc => (o_load Try.isAgg5 rfl hc)) hc54 rfl ?_
        refine WQ_val rfl gd0 (o_conv Try.underlying5 Try.underlying3 rfl) rfl ?_
        refine WQ_val rfl gd0 (o_add rfl rfl) rfl ?_
        refine WQ_val rfl gd0 (o_assign (v := .int .i64 (IntKind.i64.wrap ((IntKind.i64.wrap ((IntKind.i64.wrap x49) * 256)) + (IntKind.i64.wrap x53)))) rfl) rfl ?_
        refine WQ_nil ?_
        refine nrm ?_
        refine WC_seq ?_
        refine WC_draws [] (.look 0 (.look 1 (.look 2 (.look 3 (.look 4 (.look 5 (.look 6 (.look 7 (.look 8 (.look 9 (.look 10 .nil))))))))))) Try.mixed (by kernel_rfl) ?_
        refine WQ_val rfl gd0 (o_move (v := .slice b_a1 b_n2 b_c3) (by exact e0)) rfl ?_
        obtain ⟨l55, u56, h⟩ := h
        refine WQ_val rfl gd0 (o_indexAddr1 Try.underlying22 Try.sizeOf5 (by exact (congrArg (fun z => Value.slice z b_n2 b_c3) q48)) rfl l55 u56) rfl ?_
        obtain ⟨x57, hc58, h⟩ := h
        refine WQ_look (fun w => w.cell? (p47.add ((2 : Int).toNat)) = some (.int .u8 x57)) rfl gd0 (fun w hc => (o_load Try.isAgg5 rfl hc)) hc58 rfl ?_
        refine WQ_val rfl gd0 (o_conv Try.underlying5 Try.underlying3 rfl) rfl ?_
        refine WQ_val rfl gd0 (o_mul rfl rfl) rfl ?_
        refine WQ_val rfl gd0 (o_move (v := .slice b_a1 b_n2 b_c3) (by exact e0)) rfl ?_
        obtain ⟨l59, u60, h⟩ := h
        refine WQ_val rfl gd0 (o_indexAddr1 Try.underlying22 Try.sizeOf5 (by exact (congrArg (fun z => Value.slice z b_n2 b_c3) q48)) rfl l59 u60) rfl ?_
        obtain ⟨x61, hc62, h⟩ := h
        refine WQ_look (fun w => w.cell? (p47.add ((3 : Int).toNat)) = some (.int .u8 x61)) rfl gd0 (fun w hc => (o_load Try.isAgg5 rfl hc)) hc62 rfl ?_
        refine WQ_val rfl gd0 (o_conv Try.underlying5 Try.underlying3 rfl) rfl ?_
        refine WQ_val rfl gd0 (o_add rfl rfl) rfl ?_
        refine WQ_val rfl gd0 (o_assign (v := .int .i64 (IntKind.i64.wrap ((IntKind.i64.wrap ((IntKind.i64.wrap x57) * 256)) + (IntKind.i64.wrap x61)))) rfl) rfl ?_
        refine WQ_nil ?_
        refine nrm ?_
        refine WC_cut (fun ρ w' => ∃ (f66 : Option Addr), ρ 6 = .pointer f66 ∧ ρ 0 = .slice b_a1 b_n2 b_c3 ∧ ρ 2 = .pointer (some p5) ∧ F16_j1 p5 b_a1 b_n2 b_c3 f66 w' k) ?_ ?_
        · refine WC_draws [16, 22, 24, 25] (.look 0 (.look 1 (.look 2 (.look 3 (.look 4 (.look 5 (.look 6 (.look 7 (.look 8 (.look 9 (.look 10 (.look 11 (.look 12 (.look 13 (.look 14 (.look 15 (.look 17 (.look 18 (.look 19 (.look 20 (.look 21 (.fork 16 (.fork 22 (.look 23 (.act 24 (.act 25 .nil))) 24 (.act 22 (.look 23 (.act 25 .nil)))) 24 (.act 16 (.act 22 (.look 23 (.act 25 .nil)))))))))))))))))))))))))) Try.mixed (by kernel_rfl) ?_
          refine WQ_val rfl gd0 (o_move (v := .int .i64 (IntKind.i64.wrap ((IntKind.i64.wrap ((IntKind.i64.wrap x49) * 256)) + (IntKind.i64.wrap x53)))) rfl) rfl ?_
          refine WQ_val rfl gd0 (o_shr rfl rfl (by decide)) rfl ?_
          refine WQ_val rfl gd0 (fun w => o_rem rfl rfl w (by decide)) rfl ?_
          refine WQ_val rfl gd0 (o_eql rfl rfl) rfl ?_
          refine WQ_val rfl gd0 (o_move (v := .int .i64 (IntKind.i64.wrap ((IntKind.i64.wrap ((IntKind.i64.wrap x49) * 256)) + (IntKind.i64.wrap x53)))) rfl) rfl ?_
          refine WQ_val rfl gd0 (o_shr rfl rfl (by decide)) rfl ?_
          refine WQ_val rfl gd0 (fun w => o_rem rfl rfl w (by decide)) rfl ?_
          refine WQ_val rfl gd0 (o_eql rfl rfl) rfl ?_
          refine WQ_val rfl gd0 (o_move (v := .int .i64 (IntKind.i64.wrap ((IntKind.i64.wrap ((IntKind.i64.wrap x49) * 256)) + (IntKind.i64.wrap x53)))) rfl) rfl ?_
          refine WQ_val rfl gd0 (fun w => o_rem rfl rfl w (by decide)) rfl ?_
          refine WQ_val rfl gd0 (o_move (v := .int .i64 (IntKind.i64.wrap ((IntKind.i64.wrap ((IntKind.i64.wrap x57) * 256)) + (IntKind.i64.wrap x61)))) rfl) rfl ?_
          refine WQ_val rfl gd0 (fun w => o_quo rfl rfl w (by decide)) rfl ?_
          refine WQ_val rfl gd0 (o_move (v := .slice b_a1 b_n2 b_c3) (by exact e0)) rfl ?_
          obtain ⟨l126, u127, h⟩ := h
          refine WQ_val rfl gd0 (o_indexAddr1 Try.underlying22 Try.sizeOf5 (by exact (congrArg (fun z => Value.slice z b_n2 b_c3) q48)) rfl l126 u127) rfl ?_
          obtain ⟨x128, hc129, h⟩ := h
          refine WQ_look (fun w => w.cell? (p47.add ((4 : Int).toNat)) = some (.int .u8 x128)) rfl gd0 (fun w hc => (o_load Try.isAgg5 rfl hc)) hc129 rfl ?_
          refine WQ_val rfl gd0 (o_conv Try.underlying5 Try.underlying3 rfl) rfl ?_
          refine WQ_val rfl gd0 (o_move (v := .slice b_a1 b_n2 b_c3) (by exact e0)) rfl ?_
          refine WQ_val rfl gd0 (o_move (v := .slice b_a1 b_n2 b_c3) (by exact e0)) rfl ?_
          refine WQ_val rfl gd0 (o_len Try.underlying22 rfl) rfl ?_
          refine WQ_val rfl gd0 (o_sub rfl rfl) rfl ?_
          obtain ⟨c130, c131, c132, h⟩ := h
          refine WQ_val rfl gd0 (o_sliceLH Try.underlying22 Try.sizeOf5 rfl rfl rfl c130 c131 c132) rfl ?_
          obtain ⟨h, hf173⟩ := h
          refine WQ_fork ?_ ?_
          · have h := New.out h
            obtain ⟨hh135, h⟩ := h
            refine WQ_act rfl gd0 (o_buildSlice (e := 5) (ps := []) (cs := []) partNil (fun w => by kernel_rfl)) rfl (by exact ⟨trivial, fun _ => hh135⟩) ?_
            generalize hp133 : fresh w31.drew.drew.drew = p133 at h ⊢
            generalize hw134 : push w31.drew.drew.drew 5 [] = w134 at h ⊢
            try dsimp only at h
            obtain ⟨h, hf158⟩ := h
            refine WQ_fork ?_ ?_
            · obtain ⟨b_a136, b_n137, b_c138, w139, r140, h⟩ := h
              obtain ⟨hh141, h⟩ := h
              refine WQ_act rfl gd0 (o_append rfl rfl r140) rfl (by exact ⟨trivial, fun _ => hh141⟩) ?_
              refine WQ_val rfl gd0 (o_build (ps := [(0, .bool (decide ((Int.tmod (shr .i64 (IntKind.i64.wrap ((IntKind.i64.wrap ((IntKind.i64.wrap x49) * 256)) + (IntKind.i64.wrap x53))) 13) 2) = 1))), (1, .bool (decide ((Int.tmod (shr .i64 (IntKind.i64.wrap ((IntKind.i64.wrap ((IntKind.i64.wrap x49) * 256)) + (IntKind.i64.wrap x53))) 12) 2) = 1))), (2, .int .i64 (Int.tmod (IntKind.i64.wrap ((IntKind.i64.wrap ((IntKind.i64.wrap x49) * 256)) + (IntKind.i64.wrap x53))) 1024)), (3, .int .i64 (IntKind.i64.wrap (Int.tdiv (IntKind.i64.wrap ((IntKind.i64.wrap ((IntKind.i64.wrap x57) * 256)) + (IntKind.i64.wrap x61))) 1024))), (4, .int .i64 (IntKind.i64.wrap x128)), (5, .slice b_a136 b_n137 b_c138)]) (v := .agg #[.bool (decide ((Int.tmod (shr .i64 (IntKind.i64.wrap ((IntKind.i64.wrap ((IntKind.i64.wrap x49) * 256)) + (IntKind.i64.wrap x53))) 13) 2) = 1)), .bool (decide ((Int.tmod (shr .i64 (IntKind.i64.wrap ((IntKind.i64.wrap ((IntKind.i64.wrap x49) * 256)) + (IntKind.i64.wrap x53))) 12) 2) = 1)), .int .i64 (Int.tmod (IntKind.i64.wrap ((IntKind.i64.wrap ((IntKind.i64.wrap x49) * 256)) + (IntKind.i64.wrap x53))) 1024), .int .i64 (IntKind.i64.wrap (Int.tdiv (IntKind.i64.wrap ((IntKind.i64.wrap ((IntKind.i64.wrap x57) * 256)) + (IntKind.i64.wrap x61))) 1024)), .int .i64 (IntKind.i64.wrap x128), .slice b_a136 b_n137 b_c138]) (partCons rfl (partCons rfl (partCons rfl (partCons rfl (partCons rfl (partCons rfl partNil)))))) (fun w => by kernel_rfl)) rfl ?_
              have h := New.out h
              obtain ⟨hh144, h⟩ := h
              refine WQ_act rfl gd0 (o_alloc (z := .agg #[.bool false, .bool false, .int .i64 0, .int .i64 0, .int .i64 0, .slice none 0 0]) (cs := [.bool false, .bool false, .int .i64 0, .int .i64 0, .int .i64 0, .slice none 0 0]) Try.zeroValue24 rfl) rfl (by exact ⟨trivial, fun _ => hh144⟩) ?_
              generalize hp142 : fresh w139 = p142 at h ⊢
              generalize hw143 : push w139 24 [.bool false, .bool false, .int .i64 0, .int .i64 0, .int .i64 0, .slice none 0 0] = w143 at h ⊢
              try dsimp only at h
              obtain ⟨c146, h⟩ := h
              refine WQ_do rfl gd0 (o_storeAgg (vs := [.bool (decide ((Int.tmod (shr .i64 (IntKind.i64.wrap ((IntKind.i64.wrap ((IntKind.i64.wrap x49) * 256)) + (IntKind.i64.wrap x53))) 13) 2) = 1)), .bool (decide ((Int.tmod (shr .i64 (IntKind.i64.wrap ((IntKind.i64.wrap ((IntKind.i64.wrap x49) * 256)) + (IntKind.i64.wrap x53))) 12) 2) = 1)), .int .i64 (Int.tmod (IntKind.i64.wrap ((IntKind.i64.wrap ((IntKind.i64.wrap x49) * 256)) + (IntKind.i64.wrap x53))) 1024), .int .i64 (IntKind.i64.wrap (Int.tdiv (IntKind.i64.wrap ((IntKind.i64.wrap ((IntKind.i64.wrap x57) * 256)) + (IntKind.i64.wrap x61))) 1024)), .int .i64 (IntKind.i64.wrap x128), .slice b_a136 b_n137 b_c138]) Try.sizeOf24 rfl rfl rfl c146) (by exact ⟨trivial, depT (by kernel_rfl)⟩) ?_
              generalize hw145 : setAll w143 p142 0 [.bool (decide ((Int.tmod (shr .i64 (IntKind.i64.wrap ((IntKind.i64.wrap ((IntKind.i64.wrap x49) * 256)) + (IntKind.i64.wrap x53))) 13) 2) = 1)), .bool (decide ((Int.tmod (shr .i64 (IntKind.i64.wrap ((IntKind.i64.wrap ((IntKind.i64.wrap x49) * 256)) + (IntKind.i64.wrap x53))) 12) 2) = 1)), .int .i64 (Int.tmod (IntKind.i64.wrap ((IntKind.i64.wrap ((IntKind.i64.wrap x49) * 256)) + (IntKind.i64.wrap x53))) 1024), .int .i64 (IntKind.i64.wrap (Int.tdiv (IntKind.i64.wrap ((IntKind.i64.wrap ((IntKind.i64.wrap x57) * 256)) + (IntKind.i64.wrap x61))) 1024)), .int .i64 (IntKind.i64.wrap x128), .slice b_a136 b_n137 b_c138] = w145 at h ⊢
              try dsimp only at h
              refine WQ_nil ?_
              refine nrm ?_
              exact ⟨_, rfl, e0, rfl, h⟩
            · replace h := hf158
              have h := New.out h
              obtain ⟨hh149, h⟩ := h
              refine WQ_act rfl gd0 (o_alloc (z := .agg #[.bool false, .bool false, .int .i64 0, .int .i64 0, .int .i64 0, .slice none 0 0]) (cs := [.bool false, .bool false, .int .i64 0, .int .i64 0, .int .i64 0, .slice none 0 0]) Try.zeroValue24 rfl) rfl (by exact ⟨trivial, fun _ => hh149⟩) ?_
              generalize hp147 : fresh w134 = p147 at h ⊢
              generalize hw148 : push w134 24 [.bool false, .bool false, .int .i64 0, .int .i64 0, .int .i64 0, .slice none 0 0] = w148 at h ⊢
              try dsimp only at h
              obtain ⟨b_a150, b_n151, b_c152, w153, r154, h⟩ := h
              obtain ⟨hh155, h⟩ := h
              refine WQ_act rfl gd0 (o_append rfl rfl r154) rfl (by exact ⟨trivial, fun _ => hh155⟩) ?_
              refine WQ_val rfl gd0 (o_build (ps := [(0, .bool (decide ((Int.tmod (shr .i64 (IntKind.i64.wrap ((IntKind.i64.wrap ((IntKind.i64.wrap x49) * 256)) + (IntKind.i64.wrap x53))) 13) 2) = 1))), (1, .bool (decide ((Int.tmod (shr .i64 (IntKind.i64.wrap ((IntKind.i64.wrap ((IntKind.i64.wrap x49) * 256)) + (IntKind.i64.wrap x53))) 12) 2) = 1))), (2, .int .i64 (Int.tmod (IntKind.i64.wrap ((IntKind.i64.wrap ((IntKind.i64.wrap x49) * 256)) + (IntKind.i64.wrap x53))) 1024)), (3, .int .i64 (IntKind.i64.wrap (Int.tdiv (IntKind.i64.wrap ((IntKind.i64.wrap ((IntKind.i64.wrap x57) * 256)) + (IntKind.i64.wrap x61))) 1024))), (4, .int .i64 (IntKind.i64.wrap x128)), (5, .slice b_a150 b_n151 b_c152)]) (v := .agg #[.bool (decide ((Int.tmod (shr .i64 (IntKind.i64.wrap ((IntKind.i64.wrap ((IntKind.i64.wrap x49) * 256)) + (IntKind.i64.wrap x53))) 13) 2) = 1)), .bool (decide ((Int.tmod (shr .i64 (IntKind.i64.wrap ((IntKind.i64.wrap ((IntKind.i64.wrap x49) * 256)) + (IntKind.i64.wrap x53))) 12) 2) = 1)), .int .i64 (Int.tmod (IntKind.i64.wrap ((IntKind.i64.wrap ((IntKind.i64.wrap x49) * 256)) + (IntKind.i64.wrap x53))) 1024), .int .i64 (IntKind.i64.wrap (Int.tdiv (IntKind.i64.wrap ((IntKind.i64.wrap ((IntKind.i64.wrap x57) * 256)) + (IntKind.i64.wrap x61))) 1024)), .int .i64 (IntKind.i64.wrap x128), .slice b_a150 b_n151 b_c152]) (partCons rfl (partCons rfl (partCons rfl (partCons rfl (partCons rfl (partCons rfl partNil)))))) (fun w => by kernel_rfl)) rfl ?_
              obtain ⟨c157, h⟩ := h
              refine WQ_do rfl gd0 (o_storeAgg (vs := [.bool (decide ((Int.tmod (shr .i64 (IntKind.i64.wrap ((IntKind.i64.wrap ((IntKind.i64.wrap x49) * 256)) + (IntKind.i64.wrap x53))) 13) 2) = 1)), .bool (decide ((Int.tmod (shr .i64 (IntKind.i64.wrap ((IntKind.i64.wrap ((IntKind.i64.wrap x49) * 256)) + (IntKind.i64.wrap x53))) 12) 2) = 1)), .int .i64 (Int.tmod (IntKind.i64.wrap ((IntKind.i64.wrap ((IntKind.i64.wrap x49) * 256)) + (IntKind.i64.wrap x53))) 1024), .int .i64 (IntKind.i64.wrap (Int.tdiv (IntKind.i64.wrap ((IntKind.i64.wrap ((IntKind.i64.wrap x57) * 256)) + (IntKind.i64.wrap x61))) 1024)), .int .i64 (IntKind.i64.wrap x128), .slice b_a150 b_n151 b_c152]) Try.sizeOf24 rfl rfl rfl c157) (by exact ⟨trivial, depT (by kernel_rfl)⟩) ?_
              generalize hw156 : setAll w153 p147 0 [.bool (decide ((Int.tmod (shr .i64 (IntKind.i64.wrap ((IntKind.i64.wrap ((IntKind.i64.wrap x49) * 256)) + (IntKind.i64.wrap x53))) 13) 2) = 1)), .bool (decide ((Int.tmod (shr .i64 (IntKind.i64.wrap ((IntKind.i64.wrap ((IntKind.i64.wrap x49) * 256)) + (IntKind.i64.wrap x53))) 12) 2) = 1)), .int .i64 (Int.tmod (IntKind.i64.wrap ((IntKind.i64.wrap ((IntKind.i64.wrap x49) * 256)) + (IntKind.i64.wrap x53))) 1024), .int .i64 (IntKind.i64.wrap (Int.tdiv (IntKind.i64.wrap ((IntKind.i64.wrap ((IntKind.i64.wrap x57) * 256)) + (IntKind.i64.wrap x61))) 1024)), .int .i64 (IntKind.i64.wrap x128), .slice b_a150 b_n151 b_c152] = w156 at h ⊢
              try dsimp only at h
              refine WQ_nil ?_
              refine nrm ?_
              exact ⟨_, rfl, e0, rfl, h⟩
          · replace h := hf173
            have h := New.out h
            obtain ⟨hh161, h⟩ := h
            refine WQ_act rfl gd0 (o_alloc (z := .agg #[.bool false, .bool false, .int .i64 0, .int .i64 0, .int .i64 0, .slice none 0 0]) (cs := [.bool false, .bool false, .int .i64 0, .int .i64 0, .int .i64 0, .slice none 0 0]) Try.zeroValue24 rfl) rfl (by exact ⟨trivial, fun _ => hh161⟩) ?_
            generalize hp159 : fresh w31.drew.drew.drew = p159 at h ⊢
            generalize hw160 : push w31.drew.drew.drew 24 [.bool false, .bool false, .int .i64 0, .int .i64 0, .int .i64 0, .slice none 0 0] = w160 at h ⊢
            try dsimp only at h
            have h := New.out h
            obtain ⟨hh164, h⟩ := h
            refine WQ_act rfl gd0 (o_buildSlice (e := 5) (ps := []) (cs := []) partNil (fun w => by kernel_rfl)) rfl (by exact ⟨trivial, fun _ => hh164⟩) ?_
            generalize hp162 : fresh w160 = p162 at h ⊢
            generalize hw163 : push w160 5 [] = w163 at h ⊢
            try dsimp only at h
            obtain ⟨b_a165, b_n166, b_c167, w168, r169, h⟩ := h
            obtain ⟨hh170, h⟩ := h
            refine WQ_act rfl gd0 (o_append rfl rfl r169) rfl (by exact ⟨trivial, fun _ => hh170⟩) ?_
            refine WQ_val rfl gd0 (o_build (ps := [(0, .bool (decide ((Int.tmod (shr .i64 (IntKind.i64.wrap ((IntKind.i64.wrap ((IntKind.i64.wrap x49) * 256)) + (IntKind.i64.wrap x53))) 13) 2) = 1))), (1, .bool (decide ((Int.tmod (shr .i64 (IntKind.i64.wrap ((IntKind.i64.wrap ((IntKind.i64.wrap x49) * 256)) + (IntKind.i64.wrap x53))) 12) 2) = 1))), (2, .int .i64 (Int.tmod (IntKind.i64.wrap ((IntKind.i64.wrap ((IntKind.i64.wrap x49) * 256)) + (IntKind.i64.wrap x53))) 1024)), (3, .int .i64 (IntKind.i64.wrap (Int.tdiv (IntKind.i64.wrap ((IntKind.i64.wrap ((IntKind.i64.wrap x57) * 256)) + (IntKind.i64.wrap x61))) 1024))), (4, .int .i64 (IntKind.i64.wrap x128)), (5, .slice b_a165 b_n166 b_c167)]) (v := .agg #[.bool (decide ((Int.tmod (shr .i64 (IntKind.i64.wrap ((IntKind.i64.wrap ((IntKind.i64.wrap x49) * 256)) + (IntKind.i64.wrap x53))) 13) 2) = 1)), .bool (decide ((Int.tmod (shr .i64 (IntKind.i64.wrap ((IntKind.i64.wrap ((IntKind.i64.wrap x49) * 256)) + (IntKind.i64.wrap x53))) 12) 2) = 1)), .int .i64 (Int.tmod (IntKind.i64.wrap ((IntKind.i64.wrap ((IntKind.i64.wrap x49) * 256)) + (IntKind.i64.wrap x53))) 1024), .int .i64 (IntKind.i64.wrap (Int.tdiv (IntKind.i64.wrap ((IntKind.i64.wrap ((IntKind.i64.wrap x57) * 256)) + (IntKind.i64.wrap x61))) 1024)), .int .i64 (IntKind.i64.wrap x128), .slice b_a165 b_n166 b_c167]) (partCons rfl (partCons rfl (partCons rfl (partCons rfl (partCons rfl (partCons rfl partNil)))))) (fun w => by kernel_rfl)) rfl ?_
            obtain ⟨c172, h⟩ := h
            refine WQ_do rfl gd0 (o_storeAgg (vs := [.bool (decide ((Int.tmod (shr .i64 (IntKind.i64.wrap ((IntKind.i64.wrap ((IntKind.i64.wrap x49) * 256)) + (IntKind.i64.wrap x53))) 13) 2) = 1)), .bool (decide ((Int.tmod (shr .i64 (IntKind.i64.wrap ((IntKind.i64.wrap ((IntKind.i64.wrap x49) * 256)) + (IntKind.i64.wrap x53))) 12) 2) = 1)), .int .i64 (Int.tmod (IntKind.i64.wrap ((IntKind.i64.wrap ((IntKind.i64.wrap x49) * 256)) + (IntKind.i64.wrap x53))) 1024), .int .i64 (IntKind.i64.wrap (Int.tdiv (IntKind.i64.wrap ((IntKind.i64.wrap ((IntKind.i64.wrap x57) * 256)) + (IntKind.i64.wrap x61))) 1024)), .int .i64 (IntKind.i64.wrap x128), .slice b_a165 b_n166 b_c167]) Try.sizeOf24 rfl rfl rfl c172) (by exact ⟨trivial, depT (by kernel_rfl)⟩) ?_
            generalize hw171 : setAll w168 p159 0 [.bool (decide ((Int.tmod (shr .i64 (IntKind.i64.wrap ((IntKind.i64.wrap ((IntKind.i64.wrap x49) * 256)) + (IntKind.i64.wrap x53))) 13) 2) = 1)), .bool (decide ((Int.tmod (shr .i64 (IntKind.i64.wrap ((IntKind.i64.wrap ((IntKind.i64.wrap x49) * 256)) + (IntKind.i64.wrap x53))) 12) 2) = 1)), .int .i64 (Int.tmod (IntKind.i64.wrap ((IntKind.i64.wrap ((IntKind.i64.wrap x49) * 256)) + (IntKind.i64.wrap x53))) 1024), .int .i64 (IntKind.i64.wrap (Int.tdiv (IntKind.i64.wrap ((IntKind.i64.wrap ((IntKind.i64.wrap x57) * 256)) + (IntKind.i64.wrap x61))) 1024)), .int .i64 (IntKind.i64.wrap x128), .slice b_a165 b_n166 b_c167] = w171 at h ⊢
            try dsimp only at h
            refine WQ_nil ?_
            refine nrm ?_
            exact ⟨_, rfl, e0, rfl, h⟩
        · rintro ρ w67 ⟨f66, e6_65, e0_63, e2_64, h⟩
          unfold F16_j1 at h
          refine WC_seq ?_
          refine WC_region ?_
          obtain ⟨p68, q69, h⟩ := h
          obtain ⟨x70, x71, x72, x73, x74, x_a75, x_n76, x_c77, hc78, h⟩ := h
          refine WL_val gd0 (o_loadAgg (vs := [.bool x70, .bool x71, .int .i64 x72, .int .i64 x73, .int .i64 x74, .slice x_a75 x_n76 x_c77]) Try.isAgg24 Try.sizeOf24 (by exact (Eq.trans e6_65 (congrArg Value.pointer q69))) hc78) rfl ?_
          refine WL_call gd0 (o_call Try.call10 (argCons rfl argNil) _) rfl (h.mono ?_)
          rintro _ w79 ⟨r_a80, r_n81, r_c82, r83, rfl, h⟩
          refine WL_val gd0 ((o_move (v := .tuple #[.slice r_a80 r_n81 r_c82, .int .i64 r83]) rfl) _) rfl ?_
          refine WL_val gd0 ((o_extract (vs := [.slice r_a80 r_n81 r_c82, .int .i64 r83]) (r := .slice r_a80 r_n81 r_c82) rfl rfl) _) rfl ?_
          refine WL_val gd0 ((o_extract (vs := [.slice r_a80 r_n81 r_c82, .int .i64 r83]) (r := .int .i64 r83) rfl rfl) _) rfl ?_
          refine WL_val gd0 ((o_assign (v := .slice r_a80 r_n81 r_c82) rfl) _) rfl ?_
          refine WL_val gd0 ((o_assign (v := .int .i64 r83) rfl) _) rfl ?_
          refine WL_nil ?_
          refine nrm ?_
          refine WC_seq ?_
          refine WC_cut (fun ρ w' => ∃ (t87 : Bool), ρ 78 = .bool t87 ∧ ρ 2 = .pointer (some p5) ∧ ρ 6 = .pointer f66 ∧ F16_j2 p5 p68 t87 w' k) ?_ ?_
          · refine WC_region ?_
            refine WL_val gd0 ((o_move (v := .int .i64 r83) rfl) _) rfl ?_
            refine WL_val gd0 ((o_neq rfl rfl) _) rfl ?_
            refine WL_val gd0 ((o_move (v := .bool (decide (r83 ≠ 0))) rfl) _) rfl ?_
            refine bsplit (decide (r83 ≠ 0)) (fun hb121 => ?_) (fun hb121 => ?_)
            · rw [if_pos (of_decide_eq_true hb121)] at h
              refine WL_skip (gdN (b := (decide (r83 ≠ 0))) 72 rfl rfl hb121) rfl ?_
              refine WL_skip (gdN (b := (decide (r83 ≠ 0))) 72 rfl rfl hb121) rfl ?_
              refine WL_skip (gdN (b := (decide (r83 ≠ 0))) 72 rfl rfl hb121) rfl ?_
              refine WL_skip (gdN (b := (decide (r83 ≠ 0))) 72 rfl rfl hb121) rfl ?_
              refine WL_skip (gdN (b := (decide (r83 ≠ 0))) 72 rfl rfl hb121) rfl ?_
              refine WL_val gd0 ((o_pickT (v := .bool true) rfl hb121 rfl) _) rfl ?_
              refine WL_nil ?_
              refine nrm ?_
              exact ⟨_, rfl, e2_64, e6_65, h⟩
            · rw [if_neg (of_decide_eq_false hb121)] at h
              refine WL_val (gdY (b := (decide (r83 ≠ 0))) 72 rfl rfl hb121) ((o_move (v := .slice r_a80 r_n81 r_c82) rfl) _) rfl ?_
              obtain ⟨s122, r123, h⟩ := h
              refine WL_val (gdY (b := (decide (r83 ≠ 0))) 72 rfl rfl hb121) (o_toStr Try.underlying22 Try.underlying5 Try.underlying9 rfl r123) rfl ?_
              refine WL_val (gdY (b := (decide (r83 ≠ 0))) 72 rfl rfl hb121) ((o_move (v := .slice b_a1 b_n2 b_c3) (by exact e0_63)) _) rfl ?_
              obtain ⟨s124, r125, h⟩ := h
              refine WL_val (gdY (b := (decide (r83 ≠ 0))) 72 rfl rfl hb121) (o_toStr Try.underlying22 Try.underlying5 Try.underlying9 rfl r125) rfl ?_
              refine WL_val (gdY (b := (decide (r83 ≠ 0))) 72 rfl rfl hb121) ((o_neqStr rfl rfl) _) rfl ?_
              refine WL_val gd0 ((o_pickF (v := .bool (!(s122.toList == s124.toList))) rfl hb121 rfl) _) rfl ?_
              refine WL_nil ?_
              refine nrm ?_
              exact ⟨_, rfl, e2_64, e6_65, h⟩
          · rintro ρ w88 ⟨t87, e78_86, e2_84, e6_85, h⟩
            unfold F16_j2 at h
            refine WC_cond (t := t87) (by exact e78_86) (fun hb89 => ?_) (fun hb89 => ?_)
            · rw [if_pos hb89] at h
              refine WC_seq ?_
              refine WC_region ?_
              refine WL_val gd0 ((o_build (ps := []) (v := .agg #[.bool false, .bool false, .int .i64 0, .int .i64 0, .int .i64 0, .slice none 0 0]) partNil (fun w => by kernel_rfl)) _) rfl ?_
              obtain ⟨c91, h⟩ := h
              refine WL_act gd0 (o_storeAgg (vs := [.bool false, .bool false, .int .i64 0, .int .i64 0, .int .i64 0, .slice none 0 0]) Try.sizeOf24 (by exact e2_84) rfl rfl c91) ?_
              generalize hw90 : setAll w88 p5 0 [.bool false, .bool false, .int .i64 0, .int .i64 0, .int .i64 0, .slice none 0 0] = w90 at h ⊢
              try dsimp only at h
              refine WL_val gd0 ((o_assign (v := .int .i64 4) rfl) _) rfl ?_
              refine WL_nil ?_
              refine nrm ?_
              refine WC_ret ?_
              refine rtT ?_
              refine rtE ?_
              obtain ⟨r92, r93, r94, r95, r96, r_a97, r_n98, r_c99, hc100, h⟩ := h
              exact gvC1 (vs := [.bool r92, .bool r93, .int .i64 r94, .int .i64 r95, .int .i64 r96, .slice r_a97 r_n98 r_c99]) rfl Try.isAgg24 Try.sizeOf24 (by exact e2_84) hc100 rfl h
            · rw [if_neg (neT hb89)] at h
              refine WC_skip ?_
              refine nrm ?_
              refine WC_seq ?_
              refine WC_region ?_
              obtain ⟨x101, x102, x103, x104, x105, x_a106, x_n107, x_c108, hc109, h⟩ := h
              refine WL_val gd0 (o_loadAgg (vs := [.bool x101, .bool x102, .int .i64 x103, .int .i64 x104, .int .i64 x105, .slice x_a106 x_n107 x_c108]) Try.isAgg24 Try.sizeOf24 (by exact (Eq.trans e6_85 (congrArg Value.pointer q69))) hc109) rfl ?_
              obtain ⟨c111, h⟩ := h
              refine WL_act gd0 (o_storeAgg (vs := [.bool x101, .bool x102, .int .i64 x103, .int .i64 x104, .int .i64 x105, .slice x_a106 x_n107 x_c108]) Try.sizeOf24 (by exact e2_84) rfl rfl c111) ?_
              generalize hw110 : setAll w88 p5 0 [.bool x101, .bool x102, .int .i64 x103, .int .i64 x104, .int .i64 x105, .slice x_a106 x_n107 x_c108] = w110 at h ⊢
              try dsimp only at h
              refine WL_val gd0 ((o_assign (v := .int .i64 0) rfl) _) rfl ?_
              refine WL_nil ?_
              refine nrm ?_
              refine WC_ret ?_
              refine rtE ?_
              obtain ⟨r112, r113, r114, r115, r116, r_a117, r_n118, r_c119, hc120, h⟩ := h
              exact gvC1 (vs := [.bool r112, .bool r113, .int .i64 r114, .int .i64 r115, .int .i64 r116, .slice r_a117 r_n118 r_c119]) rfl Try.isAgg24 Try.sizeOf24 (by exact e2_84) hc120 rfl h

/-- spacecraft spacecraftref14.Same -/
def F17 (a1 : Bool) (a2 : Bool) (a3 : Int) (a4 : Int) (a5 : Int) (a_a6 : Option Addr) (a_n7 : Nat) (a_c8 : Nat) (b9 : Bool) (b10 : Bool) (b11 : Int) (b12 : Int) (b13 : Int) (b_a14 : Option Addr) (b_n15 : Nat) (b_c16 : Nat) (w17 : World) (k : Value → World → Prop) : Prop :=
  New w17 24 [.bool a1, .bool a2, .int .i64 a3, .int .i64 a4, .int .i64 a5, .slice a_a6 a_n7 a_c8] (fun p18 w19 => New w19 24 [.bool b9, .bool b10, .int .i64 b11, .int .i64 b12, .int .i64 b13, .slice b_a14 b_n15 b_c16] (fun p20 w21 => ∃ (x22 : Bool), w21.cell? p18 = some (.bool x22) ∧ ∃ (x24 : Bool), w21.cell? p20 = some (.bool x24) ∧ if (x22 == x24) = true then
  ∃ (x27 : Bool), w21.cell? (p18.add 1) = some (.bool x27) ∧ ∃ (x29 : Bool), w21.cell? (p20.add 1) = some (.bool x29) ∧ if (x27 == x29) = true then
    ∃ (x32 : Int), w21.cell? (p18.add 2) = some (.int .i64 x32) ∧ ∃ (x34 : Int), w21.cell? (p20.add 2) = some (.int .i64 x34) ∧ if x32 = x34 then
      ∃ (x37 : Int), w21.cell? (p18.add 3) = some (.int .i64 x37) ∧ ∃ (x39 : Int), w21.cell? (p20.add 3) = some (.int .i64 x39) ∧ if x37 = x39 then
        ∃ (x42 : Int), w21.cell? (p18.add 4) = some (.int .i64 x42) ∧ ∃ (x44 : Int), w21.cell? (p20.add 4) = some (.int .i64 x44) ∧ if x42 = x44 then
          ∃ (x_a47 : Option Addr) (x_n48 x_c49 : Nat), w21.cell? (p18.add 5) = some (.slice x_a47 x_n48 x_c49) ∧ ∃ (s51 : ByteArray), (Conv.bytesToString (.slice x_a47 x_n48 x_c49)).run Try.prog w21 = .ok (.string s51) w21 ∧ ∃ (x_a53 : Option Addr) (x_n54 x_c55 : Nat), w21.cell? (p20.add 5) = some (.slice x_a53 x_n54 x_c55) ∧ ∃ (s57 : ByteArray), (Conv.bytesToString (.slice x_a53 x_n54 x_c55)).run Try.prog w21 = .ok (.string s57) w21 ∧ k (.bool (s51.toList == s57.toList)) w21
        else
          k (.bool false) w21
      else
        k (.bool false) w21
    else
      k (.bool false) w21
  else
    k (.bool false) w21
else
  k (.bool false) w21))
set_option maxRecDepth 100000 in
set_option maxHeartbeats 2000000 in
theorem w17 (a1 : Bool) (a2 : Bool) (a3 : Int) (a4 : Int) (a5 : Int) (a_a6 : Option Addr) (a_n7 : Nat) (a_c8 : Nat) (b9 : Bool) (b10 : Bool) (b11 : Int) (b12 : Int) (b13 : Int) (b_a14 : Option Addr) (b_n15 : Nat) (b_c16 : Nat) (w17 : World) (k : Value → World → Prop) (h : F17 a1 a2 a3 a4 a5 a_a6 a_n7 a_c8 b9 b10 b11 b12 b13 b_a14 b_n15 b_c16 w17 k) : Does Try.prog 17 #[.agg #[.bool a1, .bool a2, .int .i64 a3, .int .i64 a4, .int .i64 a5, .slice a_a6 a_n7 a_c8], .agg #[.bool b9, .bool b10, .int .i64 b11, .int .i64 b12, .int .i64 b13, .slice b_a14 b_n15 b_c16]] w17 k := by
  refine enter 47 Try.func17 rfl rfl rfl ?_
  intro ρ hρ
  have e0 := hρ 0 _ rfl
  have e1 := hρ 1 _ rfl
  unfold F17 at h
  refine WC_seq ?_
  refine WC_region ?_
  have h := New.out h
  refine WL_val gd0 (o_box (v := .agg #[.bool a1, .bool a2, .int .i64 a3, .int .i64 a4, .int .i64 a5, .slice a_a6 a_n7 a_c8]) (cs := [.bool a1, .bool a2, .int .i64 a3, .int .i64 a4, .int .i64 a5, .slice a_a6 a_n7 a_c8]) (by exact e0) rfl) rfl ?_
  generalize hp18 : fresh w17 = p18 at h ⊢
  generalize hw19 : push w17 24 [.bool a1, .bool a2, .int .i64 a3, .int .i64 a4, .int .i64 a5, .slice a_a6 a_n7 a_c8] = w19 at h ⊢
  try dsimp only at h
  have h := New.out h
  refine WL_val gd0 (o_box (v := .agg #[.bool b9, .bool b10, .int .i64 b11, .int .i64 b12, .int .i64 b13, .slice b_a14 b_n15 b_c16]) (cs := [.bool b9, .bool b10, .int .i64 b11, .int .i64 b12, .int .i64 b13, .slice b_a14 b_n15 b_c16]) (by exact e1) rfl) rfl ?_
  generalize hp20 : fresh w19 = p20 at h ⊢
  generalize hw21 : push w19 24 [.bool b9, .bool b10, .int .i64 b11, .int .i64 b12, .int .i64 b13, .slice b_a14 b_n15 b_c16] = w21 at h ⊢
  try dsimp only at h
  refine WL_val gd0 ((o_assign (v := .bool false) rfl) _) rfl ?_
  refine WL_nil ?_
  refine nrm ?_
  refine WC_seq ?_
  refine WC_region ?_
  refine WL_val gd0 ((o_fieldAddr0 Try.underlying24 rfl Try.sizeOf4 rfl rfl rfl) _) rfl ?_
  obtain ⟨x22, hc23, h⟩ := h
  refine WL_val gd0 (o_load Try.isAgg4 rfl hc23) rfl ?_
  refine WL_val gd0 ((o_fieldAddr0 Try.underlying24 rfl Try.sizeOf4 rfl rfl rfl) _) rfl ?_
  obtain ⟨x24, hc25, h⟩ := h
  refine WL_val gd0 (o_load Try.isAgg4 rfl hc25) rfl ?_
  refine WL_val gd0 ((o_eqlBool Try.underlying4 rfl rfl) _) rfl ?_
  refine WL_val gd0 ((o_move (v := .bool (x22 == x24)) rfl) _) rfl ?_
  refine bsplit (x22 == x24) (fun hb26 => ?_) (fun hb26 => ?_)
  · rw [if_pos hb26] at h
    refine WL_val (gdY (b := (x22 == x24)) 10 rfl rfl hb26) ((o_fieldAddr 1 Try.underlying24 rfl Try.sizeOf4 rfl rfl rfl) _) rfl ?_
    obtain ⟨x27, hc28, h⟩ := h
    refine WL_val (gdY (b := (x22 == x24)) 10 rfl rfl hb26) (o_load Try.isAgg4 rfl hc28) rfl ?_
    refine WL_val (gdY (b := (x22 == x24)) 10 rfl rfl hb26) ((o_fieldAddr 1 Try.underlying24 rfl Try.sizeOf4 rfl rfl rfl) _) rfl ?_
    obtain ⟨x29, hc30, h⟩ := h
    refine WL_val (gdY (b := (x22 == x24)) 10 rfl rfl hb26) (o_load Try.isAgg4 rfl hc30) rfl ?_
    refine WL_val (gdY (b := (x22 == x24)) 10 rfl rfl hb26) ((o_eqlBool Try.underlying4 rfl rfl) _) rfl ?_
    refine WL_val gd0 ((o_pickT (v := .bool (x27 == x29)) rfl hb26 rfl) _) rfl ?_
    refine WL_val gd0 ((o_move (v := .bool (x27 == x29)) rfl) _) rfl ?_
    refine bsplit (x27 == x29) (fun hb31 => ?_) (fun hb31 => ?_)
    · rw [if_pos hb31] at h
      refine WL_val (gdY (b := (x27 == x29)) 17 rfl rfl hb31) ((o_fieldAddr 2 Try.underlying24 rfl Try.sizeOf3 rfl rfl rfl) _) rfl ?_
      obtain ⟨x32, hc33, h⟩ := h
      refine WL_val (gdY (b := (x27 == x29)) 17 rfl rfl hb31) (o_load Try.isAgg3 rfl hc33) rfl ?_
      refine WL_val (gdY (b := (x27 == x29)) 17 rfl rfl hb31) ((o_fieldAddr 2 Try.underlying24 rfl Try.sizeOf3 rfl rfl rfl) _) rfl ?_
      obtain ⟨x34, hc35, h⟩ := h
      refine WL_val (gdY (b := (x27 == x29)) 17 rfl rfl hb31) (o_load Try.isAgg3 rfl hc35) rfl ?_
      refine WL_val (gdY (b := (x27 == x29)) 17 rfl rfl hb31) ((o_eql rfl rfl) _) rfl ?_
      refine WL_val gd0 ((o_pickT (v := .bool (decide (x32 = x34))) rfl hb31 rfl) _) rfl ?_
      refine WL_val gd0 ((o_move (v := .bool (decide (x32 = x34))) rfl) _) rfl ?_
      refine bsplit (decide (x32 = x34)) (fun hb36 => ?_) (fun hb36 => ?_)
      · rw [if_pos (of_decide_eq_true hb36)] at h
        refine WL_val (gdY (b := (decide (x32 = x34))) 24 rfl rfl hb36) ((o_fieldAddr 3 Try.underlying24 rfl Try.sizeOf3 rfl rfl rfl) _) rfl ?_
        obtain ⟨x37, hc38, h⟩ := h
        refine WL_val (gdY (b := (decide (x32 = x34))) 24 rfl rfl hb36) (o_load Try.isAgg3 rfl hc38) rfl ?_
        refine WL_val (gdY (b := (decide (x32 = x34))) 24 rfl rfl hb36) ((o_fieldAddr 3 Try.underlying24 rfl Try.sizeOf3 rfl rfl rfl) _) rfl ?_
        obtain ⟨x39, hc40, h⟩ := h
        refine WL_val (gdY (b := (decide (x32 = x34))) 24 rfl rfl hb36) (o_load Try.isAgg3 rfl hc40) rfl ?_
        refine WL_val (gdY (b := (decide (x32 = x34))) 24 rfl rfl hb36) ((o_eql rfl rfl) _) rfl ?_
        refine WL_val gd0 ((o_pickT (v := .bool (decide (x37 = x39))) rfl hb36 rfl) _) rfl ?_
        refine WL_val gd0 ((o_move (v := .bool (decide (x37 = x39))) rfl) _) rfl ?_
        refine bsplit (decide (x37 = x39)) (fun hb41 => ?_) (fun hb41 => ?_)
        · rw [if_pos (of_decide_eq_true hb41)] at h
          refine WL_val (gdY (b := (decide (x37 = x39))) 31 rfl rfl hb41) ((o_fieldAddr 4 Try.underlying24 rfl Try.sizeOf3 rfl rfl rfl) _) rfl ?_
          obtain ⟨x42, hc43, h⟩ := h
          refine WL_val (gdY (b := (decide (x37 = x39))) 31 rfl rfl hb41) (o_load Try.isAgg3 rfl hc43) rfl ?_
          refine WL_val (gdY (b := (decide (x37 = x39))) 31 rfl rfl hb41) ((o_fieldAddr 4 Try.underlying24 rfl Try.sizeOf3 rfl rfl rfl) _) rfl ?_
          obtain ⟨x44, hc45, h⟩ := h
          refine WL_val (gdY (b := (decide (x37 = x39))) 31 rfl rfl hb41) (o_load Try.isAgg3 rfl hc45) rfl ?_
          refine WL_val (gdY (b := (decide (x37 = x39))) 31 rfl rfl hb41) ((o_eql rfl rfl) _) rfl ?_
          refine WL_val gd0 ((o_pickT (v := .bool (decide (x42 = x44))) rfl hb41 rfl) _) rfl ?_
          refine WL_val gd0 ((o_move (v := .bool (decide (x42 = x44))) rfl) _) rfl ?_
          refine bsplit (decide (x42 = x44)) (fun hb46 => ?_) (fun hb46 => ?_)
          · rw [if_pos (of_decide_eq_true hb46)] at h
            refine WL_val (gdY (b := (decide (x42 = x44))) 38 rfl rfl hb46) ((o_fieldAddr 5 Try.underlying24 rfl Try.sizeOf22 rfl rfl rfl) _) rfl ?_
            obtain ⟨x_a47, x_n48, x_c49, hc50, h⟩ := h
            refine WL_val (gdY (b := (decide (x42 = x44))) 38 rfl rfl hb46) (o_load Try.isAgg22 rfl hc50) rfl ?_
            obtain ⟨s51, r52, h⟩ := h
            refine WL_val (gdY (b := (decide (x42 = x44))) 38 rfl rfl hb46) (o_toStr Try.underlying22 Try.underlying5 Try.underlying9 rfl r52) rfl ?_
            refine WL_val (gdY (b := (decide (x42 = x44))) 38 rfl rfl hb46) ((o_fieldAddr 5 Try.underlying24 rfl Try.sizeOf22 rfl rfl rfl) _) rfl ?_
            obtain ⟨x_a53, x_n54, x_c55, hc56, h⟩ := h
            refine WL_val (gdY (b := (decide (x42 = x44))) 38 rfl rfl hb46) (o_load Try.isAgg22 rfl hc56) rfl ?_
            obtain ⟨s57, r58, h⟩ := h
            refine WL_val (gdY (b := (decide (x42 = x44))) 38 rfl rfl hb46) (o_toStr Try.underlying22 Try.underlying5 Try.underlying9 rfl r58) rfl ?_
            refine WL_val (gdY (b := (decide (x42 = x44))) 38 rfl rfl hb46) ((o_eqlStr rfl rfl) _) rfl ?_
            refine WL_val gd0 ((o_pickT (v := .bool (s51.toList == s57.toList)) rfl hb46 rfl) _) rfl ?_
            refine WL_val gd0 ((o_assign (v := .bool (s51.toList == s57.toList)) rfl) _) rfl ?_
            refine WL_nil ?_
            refine nrm ?_
            refine WC_ret ?_
            refine rtE ?_
            exact gv1 rfl rfl h
          · rw [if_neg (of_decide_eq_false hb46)] at h
            refine WL_skip (gdN (b := (decide (x42 = x44))) 38 rfl rfl hb46) rfl ?_
            refine WL_skip (gdN (b := (decide (x42 = x44))) 38 rfl rfl hb46) rfl ?_
            refine WL_skip (gdN (b := (decide (x42 = x44))) 38 rfl rfl hb46) rfl ?_
            refine WL_skip (gdN (b := (decide (x42 = x44))) 38 rfl rfl hb46) rfl ?_
            refine WL_skip (gdN (b := (decide (x42 = x44))) 38 rfl rfl hb46) rfl ?_
            refine WL_skip (gdN (b := (decide (x42 = x44))) 38 rfl rfl hb46) rfl ?_
            refine WL_skip (gdN (b := (decide (x42 = x44))) 38 rfl rfl hb46) rfl ?_
            refine WL_val gd0 ((o_pickF (v := .bool false) rfl hb46 rfl) _) rfl ?_
            refine WL_val gd0 ((o_assign (v := .bool false) rfl) _) rfl ?_
            refine WL_nil ?_
            refine nrm ?_
            refine WC_ret ?_
            refine rtE ?_
            exact gv1 rfl rfl h
        · rw [if_neg (of_decide_eq_false hb41)] at h
          refine WL_skip (gdN (b := (decide (x37 = x39))) 31 rfl rfl hb41) rfl ?_
          refine WL_skip (gdN (b := (decide (x37 = x39))) 31 rfl rfl hb41) rfl ?_
          refine WL_skip (gdN (b := (decide (x37 = x39))) 31 rfl rfl hb41) rfl ?_
          refine WL_skip (gdN (b := (decide (x37 = x39))) 31 rfl rfl hb41) rfl ?_
          refine WL_skip (gdN (b := (decide (x37 = x39))) 31 rfl rfl hb41) rfl ?_
          refine WL_val gd0 ((o_pickF (v := .bool false) rfl hb41 rfl) _) rfl ?_
          refine WL_val gd0 ((o_move (v := .bool false) rfl) _) rfl ?_
          refine WL_skip (gdN (b := false) 38 rfl rfl rfl) rfl ?_
          refine WL_skip (gdN (b := false) 38 rfl rfl rfl) rfl ?_
          refine WL_skip (gdN (b := false) 38 rfl rfl rfl) rfl ?_
          refine WL_skip (gdN (b := false) 38 rfl rfl rfl) rfl ?_
          refine WL_skip (gdN (b := false) 38 rfl rfl rfl) rfl ?_
          refine WL_skip (gdN (b := false) 38 rfl rfl rfl) rfl ?_
          refine WL_skip (gdN (b := false) 38 rfl rfl rfl) rfl ?_
          refine WL_val gd0 ((o_pickF (v := .bool false) rfl rfl rfl) _) rfl ?_
          refine WL_val gd0 ((o_assign (v := .bool false) rfl) _) rfl ?_
          refine WL_nil ?_
          refine nrm ?_
          refine WC_ret ?_
          refine rtE ?_
          exact gv1 rfl rfl h
      · rw [if_neg (of_decide_eq_false hb36)] at h
        refine WL_skip (gdN (b := (decide (x32 = x34))) 24 rfl rfl hb36) rfl ?_
        refine WL_skip (gdN (b := (decide (x32 = x34))) 24 rfl rfl hb36) rfl ?_
        refine WL_skip (gdN (b := (decide (x32 = x34))) 24 rfl rfl hb36) rfl ?_
        refine WL_skip (gdN (b := (decide (x32 = x34))) 24 rfl rfl hb36) rfl ?_
        refine WL_skip (gdN (b := (decide (x32 = x34))) 24 rfl rfl hb36) rfl ?_
        refine WL_val gd0 ((o_pickF (v := .bool false) rfl hb36 rfl) _) rfl ?_
        refine WL_val gd0 ((o_move (v := .bool false) rfl) _) rfl ?_
        refine WL_skip (gdN (b := false) 31 rfl rfl rfl) rfl ?_
        refine WL_skip (gdN (b := false) 31 rfl rfl rfl) rfl ?_
        refine WL_skip (gdN (b := false) 31 rfl rfl rfl) rfl ?_
        refine WL_skip (gdN (b := false) 31 rfl rfl rfl) rfl ?_
        refine WL_skip (gdN (b := false) 31 rfl rfl rfl) rfl ?_
        refine WL_val gd0 ((o_pickF (v := .bool false) rfl rfl rfl) _) rfl ?_
        refine WL_val gd0 ((o_move (v := .bool false) rfl) _) rfl ?_
        refine WL_skip (gdN (b := false) 38 rfl rfl rfl) rfl ?_
        refine WL_skip (gdN (b := false) 38 rfl rfl rfl) rfl ?_
        refine WL_skip (gdN (b := false) 38 rfl rfl rfl) rfl ?_
        refine WL_skip (gdN (b := false) 38 rfl rfl rfl) rfl ?_
        refine WL_skip (gdN (b := false) 38 rfl rfl rfl) rfl ?_
        refine WL_skip (gdN (b := false) 38 rfl rfl rfl) rfl ?_
        refine WL_skip (gdN (b := false) 38 rfl rfl rfl) rfl ?_
        refine WL_val gd0 ((o_pickF (v := .bool false) rfl rfl rfl) _) rfl ?_
        refine WL_val gd0 ((o_assign (v := .bool false) rfl) _) rfl ?_
        refine WL_nil ?_
        refine nrm ?_
        refine WC_ret ?_
        refine rtE ?_
        exact gv1 rfl rfl h
    · rw [if_neg (neT hb31)] at h
      refine WL_skip (gdN (b := (x27 == x29)) 17 rfl rfl hb31) rfl ?_
      refine WL_skip (gdN (b := (x27 == x29)) 17 rfl rfl hb31) rfl ?_
      refine WL_skip (gdN (b := (x27 == x29)) 17 rfl rfl hb31) rfl ?_
      refine WL_skip (gdN (b := (x27 == x29)) 17 rfl rfl hb31) rfl ?_
      refine WL_skip (gdN (b := (x27 == x29)) 17 rfl rfl hb31) rfl ?_
      refine WL_val gd0 ((o_pickF (v := .bool false) rfl hb31 rfl) _) rfl ?_
      refine WL_val gd0 ((o_move (v := .bool false) rfl) _) rfl ?_
      refine WL_skip (gdN (b := false) 24 rfl rfl rfl) rfl ?_
      refine WL_skip (gdN (b := false) 24 rfl rfl rfl) rfl ?_
      refine WL_skip (gdN (b := false) 24 rfl rfl rfl) rfl ?_
      refine WL_skip (gdN (b := false) 24 rfl rfl rfl) rfl ?_
      refine WL_skip (gdN (b := false) 24 rfl rfl rfl) rfl ?_
      refine WL_val gd0 ((o_pickF (v := .bool false) rfl rfl rfl) _) rfl ?_
      refine WL_val gd0 ((o_move (v := .bool false) rfl) _) rfl ?_
      refine WL_skip (gdN (b := false) 31 rfl rfl rfl) rfl ?_
      refine WL_skip (gdN (b := false) 31 rfl rfl rfl) rfl ?_
      refine WL_skip (gdN (b := false) 31 rfl rfl rfl) rfl ?_
      refine WL_skip (gdN (b := false) 31 rfl rfl rfl) rfl ?_
      refine WL_skip (gdN (b := false) 31 rfl rfl rfl) rfl ?_
      refine WL_val gd0 ((o_pickF (v := .bool false) rfl rfl rfl) _) rfl ?_
      refine WL_val gd0 ((o_move (v := .bool false) rfl) _) rfl ?_
      refine WL_skip (gdN (b := false) 38 rfl rfl rfl) rfl ?_
      refine WL_skip (gdN (b := false) 38 rfl rfl rfl) rfl ?_
      refine WL_skip (gdN (b := false) 38 rfl rfl rfl) rfl ?_
      refine WL_skip (gdN (b := false) 38 rfl rfl rfl) rfl ?_
      refine WL_skip (gdN (b := false) 38 rfl rfl rfl) rfl ?_
      refine WL_skip (gdN (b := false) 38 rfl rfl rfl) rfl ?_
      refine WL_skip (gdN (b := false) 38 rfl rfl rfl) rfl ?_
      refine WL_val gd0 ((o_pickF (v := .bool false) rfl rfl rfl) _) rfl ?_
      refine WL_val gd0 ((o_assign (v := .bool false) rfl) _) rfl ?_
      refine WL_nil ?_
      refine nrm ?_
      refine WC_ret ?_
      refine rtE ?_
      exact gv1 rfl rfl h
  · rw [if_neg (neT hb26)] at h
    refine WL_skip (gdN (b := (x22 == x24)) 10 rfl rfl hb26) rfl ?_
    refine WL_skip (gdN (b := (x22 == x24)) 10 rfl rfl hb26) rfl ?_
    refine WL_skip (gdN (b := (x22 == x24)) 10 rfl rfl hb26) rfl ?_
    refine WL_skip (gdN (b := (x22 == x24)) 10 rfl rfl hb26) rfl ?_
    refine WL_skip (gdN (b := (x22 == x24)) 10 rfl rfl hb26) rfl ?_
    refine WL_val gd0 ((o_pickF (v := .bool false) rfl hb26 rfl) _) rfl ?_
    refine WL_val gd0 ((o_move (v := .bool false) rfl) _) rfl ?_
    refine WL_skip (gdN (b := false) 17 rfl rfl rfl) rfl ?_
    refine WL_skip (gdN (b := false) 17 rfl rfl rfl) rfl ?_
    refine WL_skip (gdN (b := false) 17 rfl rfl rfl) rfl ?_
    refine WL_skip (gdN (b := false) 17 rfl rfl rfl) rfl ?_
    refine WL_skip (gdN (b := false) 17 rfl rfl rfl) rfl ?_
    refine WL_val gd0 ((o_pickF (v := .bool false) rfl rfl rfl) _) rfl ?_
    refine WL_val gd0 ((o_move (v := .bool false) rfl) _) rfl ?_
    refine WL_skip (gdN (b := false) 24 rfl rfl rfl) rfl ?_
    refine WL_skip (gdN (b := false) 24 rfl rfl rfl) rfl ?_
    refine WL_skip (gdN (b := false) 24 rfl rfl rfl) rfl ?_
    refine WL_skip (gdN (b := false) 24 rfl rfl rfl) rfl ?_
    refine WL_skip (gdN (b := false) 24 rfl rfl rfl) rfl ?_
    refine WL_val gd0 ((o_pickF (v := .bool false) rfl rfl rfl) _) rfl ?_
    refine WL_val gd0 ((o_move (v := .bool false) rfl) _) rfl ?_
    refine WL_skip (gdN (b := false) 31 rfl rfl rfl) rfl ?_
    refine WL_skip (gdN (b := false) 31 rfl rfl rfl) rfl ?_
    refine WL_skip (gdN (b := false) 31 rfl rfl rfl) rfl ?_
    refine WL_skip (gdN (b := false) 31 rfl rfl rfl) rfl ?_
    refine WL_skip (gdN (b := false) 31 rfl rfl rfl) rfl ?_
    refine WL_val gd0 ((o_pickF (v := .bool false) rfl rfl rfl) _) rfl ?_
    refine WL_val gd0 ((o_move (v := .bool false) rfl) _) rfl ?_
    refine WL_skip (gdN (b := false) 38 rfl rfl rfl) rfl ?_
    refine WL_skip (gdN (b := false) 38 rfl rfl rfl) rfl ?_
    refine WL_skip (gdN (b := false) 38 rfl rfl rfl) rfl ?_
    refine WL_skip (gdN (b := false) 38 rfl rfl rfl) rfl ?_
    refine WL_skip (gdN (b := false) 38 rfl rfl rfl) rfl ?_
    refine WL_skip (gdN (b := false) 38 rfl rfl rfl) rfl ?_
    refine WL_skip (gdN (b := false) 38 rfl rfl rfl) rfl ?_
    refine WL_val gd0 ((o_pickF (v := .bool false) rfl rfl rfl) _) rfl ?_
    refine WL_val gd0 ((o_assign (v := .bool false) rfl) _) rfl ?_
    refine WL_nil ?_
    refine nrm ?_
    refine WC_ret ?_
    refine rtE ?_
    exact gv1 rfl rfl h

/-- spacecraft tcframe.Unlock -/
def F18 (craft1 : Int) (channel2 : Int) (w3 : World) (k : Value → World → Prop) : Prop :=
  New w3 24 [.bool false, .bool false, .int .i64 0, .int .i64 0, .int .i64 0, .slice none 0 0] (fun p4 w5 => New w5 5 [.int .u8 0] (fun p6 w7 => Does Try.prog 31 #[.int .i64 craft1, .int .i64 channel2, .slice (some p6) 1 1] w7 (fun v w8 => ∃ (x9 x10 : Bool) (x11 x12 x13 : Int) (x_a14 : Option Addr) (x_n15 x_c16 : Nat), v = .agg #[.bool x9, .bool x10, .int .i64 x11, .int .i64 x12, .int .i64 x13, .slice x_a14 x_n15 x_c16] ∧ PutAll w8 p4 [.bool x9, .bool x10, .int .i64 x11, .int .i64 x12, .int .i64 x13, .slice x_a14 x_n15 x_c16] (fun w17 => ∃ (r19 r20 : Bool) (r21 r22 r23 : Int) (r_a24 : Option Addr) (r_n25 r_c26 : Nat), Cells w17 p4 0 [.bool r19, .bool r20, .int .i64 r21, .int .i64 r22, .int .i64 r23, .slice r_a24 r_n25 r_c26] ∧ k (.agg #[.bool r19, .bool r20, .int .i64 r21, .int .i64 r22, .int .i64 r23, .slice r_a24 r_n25 r_c26]) w17))))
set_option maxRecDepth 100000 in
set_option maxHeartbeats 2000000 in
theorem w18 (craft1 : Int) (channel2 : Int) (w3 : World) (k : Value → World → Prop) (h : F18 craft1 channel2 w3 k) : Does Try.prog 18 #[.int .i64 craft1, .int .i64 channel2] w3 k := by
  refine enter 9 Try.func18 rfl rfl rfl ?_
  intro ρ hρ
  have e0 := hρ 0 _ rfl
  have e1 := hρ 1 _ rfl
  unfold F18 at h
  refine WC_seq ?_
  refine WC_region ?_
  have h := New.out h
  refine WL_val gd0 (o_alloc (z := .agg #[.bool false, .bool false, .int .i64 0, .int .i64 0, .int .i64 0, .slice none 0 0]) (cs := [.bool false, .bool false, .int .i64 0, .int .i64 0, .int .i64 0, .slice none 0 0]) Try.zeroValue24 rfl) rfl ?_
  generalize hp4 : fresh w3 = p4 at h ⊢
  generalize hw5 : push w3 24 [.bool false, .bool false, .int .i64 0, .int .i64 0, .int .i64 0, .slice none 0 0] = w5 at h ⊢
  try dsimp only at h
  refine WL_nil ?_
  refine nrm ?_
  refine WC_seq ?_
  refine WC_region ?_
  refine WL_val gd0 ((o_move (v := .int .i64 craft1) (by exact e0)) _) rfl ?_
  refine WL_val gd0 ((o_move (v := .int .i64 channel2) (by exact e1)) _) rfl ?_
  have h := New.out h
  refine WL_val gd0 (o_buildSlice (e := 5) (ps := [(0, .int .u8 0)]) (cs := [.int .u8 0]) (partCons rfl partNil) (fun w => by kernel_rfl)) rfl ?_
  generalize hp6 : fresh w5 = p6 at h ⊢
  generalize hw7 : push w5 5 [.int .u8 0] = w7 at h ⊢
  try dsimp only at h
  refine WL_call gd0 (o_call Try.call31 (argCons rfl (argCons rfl (argCons rfl argNil))) _) rfl (h.mono ?_)
  rintro _ w8 ⟨x9, x10, x11, x12, x13, x_a14, x_n15, x_c16, rfl, h⟩
  obtain ⟨c18, h⟩ := h
  refine WL_act gd0 (o_storeAgg (vs := [.bool x9, .bool x10, .int .i64 x11, .int .i64 x12, .int .i64 x13, .slice x_a14 x_n15 x_c16]) Try.sizeOf24 rfl rfl rfl c18) ?_
  generalize hw17 : setAll w8 p4 0 [.bool x9, .bool x10, .int .i64 x11, .int .i64 x12, .int .i64 x13, .slice x_a14 x_n15 x_c16] = w17 at h ⊢
  try dsimp only at h
  refine WL_nil ?_
  refine nrm ?_
  refine WC_ret ?_
  refine rtE ?_
  obtain ⟨r19, r20, r21, r22, r23, r_a24, r_n25, r_c26, hc27, h⟩ := h
  exact gvC (vs := [.bool r19, .bool r20, .int .i64 r21, .int .i64 r22, .int .i64 r23, .slice r_a24 r_n25 r_c26]) rfl Try.isAgg24 Try.sizeOf24 rfl hc27 h

def F19_j1 (p5 : Addr) (next3 : Int) (craft1 : Int) (channel2 : Int) (t12 : Bool) (w13 : World) (k : Value → World → Prop) : Prop :=
  if t12 = true then
  PutAll w13 p5 [.bool false, .bool false, .int .i64 0, .int .i64 0, .int .i64 0, .slice none 0 0] (fun w15 => ∃ (r17 r18 : Bool) (r19 r20 r21 : Int) (r_a22 : Option Addr) (r_n23 r_c24 : Nat), Cells w15 p5 0 [.bool r17, .bool r18, .int .i64 r19, .int .i64 r20, .int .i64 r21, .slice r_a22 r_n23 r_c24] ∧ k (.agg #[.bool r17, .bool r18, .int .i64 r19, .int .i64 r20, .int .i64 r21, .slice r_a22 r_n23 r_c24]) w15)
else
  New w13 5 [.int .u8 130, .int .u8 0, .int .u8 (IntKind.u8.wrap next3)] (fun p26 w27 => Does Try.prog 31 #[.int .i64 craft1, .int .i64 channel2, .slice (some p26) 3 3] w27 (fun v w28 => ∃ (x29 x30 : Bool) (x31 x32 x33 : Int) (x_a34 : Option Addr) (x_n35 x_c36 : Nat), v = .agg #[.bool x29, .bool x30, .int .i64 x31, .int .i64 x32, .int .i64 x33, .slice x_a34 x_n35 x_c36] ∧ PutAll w28 p5 [.bool x29, .bool x30, .int .i64 x31, .int .i64 x32, .int .i64 x33, .slice x_a34 x_n35 x_c36] (fun w37 => ∃ (r39 r40 : Bool) (r41 r42 r43 : Int) (r_a44 : Option Addr) (r_n45 r_c46 : Nat), Cells w37 p5 0 [.bool r39, .bool r40, .int .i64 r41, .int .i64 r42, .int .i64 r43, .slice r_a44 r_n45 r_c46] ∧ k (.agg #[.bool r39, .bool r40, .int .i64 r41, .int .i64 r42, .int .i64 r43, .slice r_a44 r_n45 r_c46]) w37)))
/-- spacecraft tcframe.SetNext -/
def F19 (craft1 : Int) (channel2 : Int) (next3 : Int) (w4 : World) (k : Value → World → Prop) : Prop :=
  New w4 24 [.bool false, .bool false, .int .i64 0, .int .i64 0, .int .i64 0, .slice none 0 0] (fun p5 w6 => if next3 < 0 then
  F19_j1 p5 next3 craft1 channel2 true w6 k
else
  F19_j1 p5 next3 craft1 channel2 (decide (255 < next3)) w6 k)
set_option maxRecDepth 100000 in
set_option maxHeartbeats 2000000 in
theorem w19 (craft1 : Int) (channel2 : Int) (next3 : Int) (w4 : World) (k : Value → World → Prop) (h : F19 craft1 channel2 next3 w4 k) : Does Try.prog 19 #[.int .i64 craft1, .int .i64 channel2, .int .i64 next3] w4 k := by
  refine enter 20 Try.func19 rfl rfl rfl ?_
  intro ρ hρ
  have e0 := hρ 0 _ rfl
  have e1 := hρ 1 _ rfl
  have e2 := hρ 2 _ rfl
  unfold F19 at h
  refine WC_seq ?_
  refine WC_region ?_
  have h := New.out h
  refine WL_val gd0 (o_alloc (z := .agg #[.bool false, .bool false, .int .i64 0, .int .i64 0, .int .i64 0, .slice none 0 0]) (cs := [.bool false, .bool false, .int .i64 0, .int .i64 0, .int .i64 0, .slice none 0 0]) Try.zeroValue24 rfl) rfl ?_
  generalize hp5 : fresh w4 = p5 at h ⊢
  generalize hw6 : push w4 24 [.bool false, .bool false, .int .i64 0, .int .i64 0, .int .i64 0, .slice none 0 0] = w6 at h ⊢
  try dsimp only at h
  refine WL_nil ?_
  refine nrm ?_
  refine WC_seq ?_
  refine WC_cut (fun ρ w' => ∃ (t12 : Bool), ρ 12 = .bool t12 ∧ ρ 0 = .int .i64 craft1 ∧ ρ 1 = .int .i64 channel2 ∧ ρ 2 = .int .i64 next3 ∧ ρ 6 = .pointer (some p5) ∧ F19_j1 p5 next3 craft1 channel2 t12 w' k) ?_ ?_
  · refine WC_region ?_
    refine WL_val gd0 ((o_move (v := .int .i64 next3) (by exact e2)) _) rfl ?_
    refine WL_val gd0 ((o_lss rfl rfl) _) rfl ?_
    refine WL_val gd0 ((o_move (v := .bool (decide (next3 < 0))) rfl) _) rfl ?_
    refine bsplit (decide (next3 < 0)) (fun hb48 => ?_) (fun hb48 => ?_)
    · rw [if_pos (of_decide_eq_true hb48)] at h
      refine WL_skip (gdN (b := (decide (next3 < 0))) 9 rfl rfl hb48) rfl ?_
      refine WL_skip (gdN (b := (decide (next3 < 0))) 9 rfl rfl hb48) rfl ?_
      refine WL_val gd0 ((o_pickT (v := .bool true) rfl hb48 rfl) _) rfl ?_
      refine WL_nil ?_
      refine nrm ?_
      exact ⟨_, rfl, e0, e1, e2, rfl, h⟩
    · rw [if_neg (of_decide_eq_false hb48)] at h
      refine WL_val (gdY (b := (decide (next3 < 0))) 9 rfl rfl hb48) ((o_move (v := .int .i64 next3) (by exact e2)) _) rfl ?_
      refine WL_val (gdY (b := (decide (next3 < 0))) 9 rfl rfl hb48) ((o_gtr rfl rfl) _) rfl ?_
      refine WL_val gd0 ((o_pickF (v := .bool (decide (255 < next3))) rfl hb48 rfl) _) rfl ?_
      refine WL_nil ?_
      refine nrm ?_
      exact ⟨_, rfl, e0, e1, e2, rfl, h⟩
  · rintro ρ w13 ⟨t12, e12_11, e0_7, e1_8, e2_9, e6_10, h⟩
    unfold F19_j1 at h
    refine WC_cond (t := t12) (by exact e12_11) (fun hb14 => ?_) (fun hb14 => ?_)
    · rw [if_pos hb14] at h
      refine WC_seq ?_
      refine WC_region ?_
      refine WL_val gd0 ((o_build (ps := []) (v := .agg #[.bool false, .bool false, .int .i64 0, .int .i64 0, .int .i64 0, .slice none 0 0]) partNil (fun w => by kernel_rfl)) _) rfl ?_
      obtain ⟨c16, h⟩ := h
      refine WL_act gd0 (o_storeAgg (vs := [.bool false, .bool false, .int .i64 0, .int .i64 0, .int .i64 0, .slice none 0 0]) Try.sizeOf24 (by exact e6_10) rfl rfl c16) ?_
      generalize hw15 : setAll w13 p5 0 [.bool false, .bool false, .int .i64 0, .int .i64 0, .int .i64 0, .slice none 0 0] = w15 at h ⊢
      try dsimp only at h
      refine WL_nil ?_
      refine nrm ?_
      refine WC_ret ?_
      refine rtT ?_
      refine rtE ?_
      obtain ⟨r17, r18, r19, r20, r21, r_a22, r_n23, r_c24, hc25, h⟩ := h
      exact gvC (vs := [.bool r17, .bool r18, .int .i64 r19, .int .i64 r20, .int .i64 r21, .slice r_a22 r_n23 r_c24]) rfl Try.isAgg24 Try.sizeOf24 (by exact e6_10) hc25 h
    · rw [if_neg (neT hb14)] at h
      refine WC_skip ?_
      refine nrm ?_
      refine WC_seq ?_
      refine WC_region ?_
      refine WL_val gd0 ((o_move (v := .int .i64 craft1) (by exact e0_7)) _) rfl ?_
      refine WL_val gd0 ((o_move (v := .int .i64 channel2) (by exact e1_8)) _) rfl ?_
      refine WL_val gd0 ((o_move (v := .int .i64 next3) (by exact e2_9)) _) rfl ?_
      refine WL_val gd0 ((o_conv Try.underlying3 Try.underlying5 rfl) _) rfl ?_
      have h := New.out h
      refine WL_val gd0 (o_buildSlice (e := 5) (ps := [(0, .int .u8 130), (1, .int .u8 0), (2, .int .u8 (IntKind.u8.wrap next3))]) (cs := [.int .u8 130, .int .u8 0, .int .u8 (IntKind.u8.wrap next3)]) (partCons rfl (partCons rfl (partCons rfl partNil))) (fun w => by kernel_rfl)) rfl ?_
      generalize hp26 : fresh w13 = p26 at h ⊢
      generalize hw27 : push w13 5 [.int .u8 130, .int .u8 0, .int .u8 (IntKind.u8.wrap next3)] = w27 at h ⊢
      try dsimp only at h
      refine WL_call gd0 (o_call Try.call31 (argCons rfl (argCons rfl (argCons rfl argNil))) _) rfl (h.mono ?_)
      rintro _ w28 ⟨x29, x30, x31, x32, x33, x_a34, x_n35, x_c36, rfl, h⟩
      obtain ⟨c38, h⟩ := h
      refine WL_act gd0 (o_storeAgg (vs := [.bool x29, .bool x30, .int .i64 x31, .int .i64 x32, .int .i64 x33, .slice x_a34 x_n35 x_c36]) Try.sizeOf24 (by exact e6_10) rfl rfl c38) ?_
      generalize hw37 : setAll w28 p5 0 [.bool x29, .bool x30, .int .i64 x31, .int .i64 x32, .int .i64 x33, .slice x_a34 x_n35 x_c36] = w37 at h ⊢
      try dsimp only at h
      refine WL_nil ?_
      refine nrm ?_
      refine WC_ret ?_
      refine rtE ?_
      obtain ⟨r39, r40, r41, r42, r43, r_a44, r_n45, r_c46, hc47, h⟩ := h
      exact gvC (vs := [.bool r39, .bool r40, .int .i64 r41, .int .i64 r42, .int .i64 r43, .slice r_a44 r_n45 r_c46]) rfl Try.isAgg24 Try.sizeOf24 (by exact e6_10) hc47 h

/-- spacecraft spacecraftref14.Unlock -/
def F20 (craft1 : Int) (channel2 : Int) (w3 : World) (k : Value → World → Prop) : Prop :=
  New w3 24 [.bool false, .bool false, .int .i64 0, .int .i64 0, .int .i64 0, .slice none 0 0] (fun p4 w5 => New w5 5 [.int .u8 0] (fun p6 w7 => PutAll w7 p4 [.bool true, .bool true, .int .i64 craft1, .int .i64 channel2, .int .i64 0, .slice (some p6) 1 1] (fun w8 => ∃ (r10 r11 : Bool) (r12 r13 r14 : Int) (r_a15 : Option Addr) (r_n16 r_c17 : Nat), Cells w8 p4 0 [.bool r10, .bool r11, .int .i64 r12, .int .i64 r13, .int .i64 r14, .slice r_a15 r_n16 r_c17] ∧ k (.agg #[.bool r10, .bool r11, .int .i64 r12, .int .i64 r13, .int .i64 r14, .slice r_a15 r_n16 r_c17]) w8)))
set_option maxRecDepth 100000 in
set_option maxHeartbeats 2000000 in
theorem w20 (craft1 : Int) (channel2 : Int) (w3 : World) (k : Value → World → Prop) (h : F20 craft1 channel2 w3 k) : Does Try.prog 20 #[.int .i64 craft1, .int .i64 channel2] w3 k := by
  refine enter 9 Try.func20 rfl rfl rfl ?_
  intro ρ hρ
  have e0 := hρ 0 _ rfl
  have e1 := hρ 1 _ rfl
  unfold F20 at h
  refine WC_seq ?_
  refine WC_region ?_
  have h := New.out h
  refine WL_val gd0 (o_alloc (z := .agg #[.bool false, .bool false, .int .i64 0, .int .i64 0, .int .i64 0, .slice none 0 0]) (cs := [.bool false, .bool false, .int .i64 0, .int .i64 0, .int .i64 0, .slice none 0 0]) Try.zeroValue24 rfl) rfl ?_
  generalize hp4 : fresh w3 = p4 at h ⊢
  generalize hw5 : push w3 24 [.bool false, .bool false, .int .i64 0, .int .i64 0, .int .i64 0, .slice none 0 0] = w5 at h ⊢
  try dsimp only at h
  refine WL_nil ?_
  refine nrm ?_
  refine WC_seq ?_
  refine WC_region ?_
  refine WL_val gd0 ((o_move (v := .int .i64 craft1) (by exact e0)) _) rfl ?_
  refine WL_val gd0 ((o_move (v := .int .i64 channel2) (by exact e1)) _) rfl ?_
  have h := New.out h
  refine WL_val gd0 (o_buildSlice (e := 5) (ps := [(0, .int .u8 0)]) (cs := [.int .u8 0]) (partCons rfl partNil) (fun w => by kernel_rfl)) rfl ?_
  generalize hp6 : fresh w5 = p6 at h ⊢
  generalize hw7 : push w5 5 [.int .u8 0] = w7 at h ⊢
  try dsimp only at h
  refine WL_val gd0 ((o_build (ps := [(0, .bool true), (1, .bool true), (2, .int .i64 craft1), (3, .int .i64 channel2), (5, .slice (some p6) 1 1)]) (v := .agg #[.bool true, .bool true, .int .i64 craft1, .int .i64 channel2, .int .i64 0, .slice (some p6) 1 1]) (partCons rfl (partCons rfl (partCons rfl (partCons rfl (partCons rfl partNil))))) (fun w => by kernel_rfl)) _) rfl ?_
  obtain ⟨c9, h⟩ := h
  refine WL_act gd0 (o_storeAgg (vs := [.bool true, .bool true, .int .i64 craft1, .int .i64 channel2, .int .i64 0, .slice (some p6) 1 1]) Try.sizeOf24 rfl rfl rfl c9) ?_
  generalize hw8 : setAll w7 p4 0 [.bool true, .bool true, .int .i64 craft1, .int .i64 channel2, .int .i64 0, .slice (some p6) 1 1] = w8 at h ⊢
  try dsimp only at h
  refine WL_nil ?_
  refine nrm ?_
  refine WC_ret ?_
  refine rtE ?_
  obtain ⟨r10, r11, r12, r13, r14, r_a15, r_n16, r_c17, hc18, h⟩ := h
  exact gvC (vs := [.bool r10, .bool r11, .int .i64 r12, .int .i64 r13, .int .i64 r14, .slice r_a15 r_n16 r_c17]) rfl Try.isAgg24 Try.sizeOf24 rfl hc18 h

def F21_j1 (p5 : Addr) (craft1 : Int) (channel2 : Int) (next3 : Int) (t12 : Bool) (w13 : World) (k : Value → World → Prop) : Prop :=
  if t12 = true then
  PutAll w13 p5 [.bool false, .bool false, .int .i64 0, .int .i64 0, .int .i64 0, .slice none 0 0] (fun w15 => ∃ (r17 r18 : Bool) (r19 r20 r21 : Int) (r_a22 : Option Addr) (r_n23 r_c24 : Nat), Cells w15 p5 0 [.bool r17, .bool r18, .int .i64 r19, .int .i64 r20, .int .i64 r21, .slice r_a22 r_n23 r_c24] ∧ k (.agg #[.bool r17, .bool r18, .int .i64 r19, .int .i64 r20, .int .i64 r21, .slice r_a22 r_n23 r_c24]) w15)
else
  Does Try.prog 20 #[.int .i64 craft1, .int .i64 channel2] w13 (fun v w26 => ∃ (x27 x28 : Bool) (x29 x30 x31 : Int) (x_a32 : Option Addr) (x_n33 x_c34 : Nat), v = .agg #[.bool x27, .bool x28, .int .i64 x29, .int .i64 x30, .int .i64 x31, .slice x_a32 x_n33 x_c34] ∧ New w26 24 [.bool false, .bool false, .int .i64 0, .int .i64 0, .int .i64 0, .slice none 0 0] (fun p35 w36 => PutAll w36 p35 [.bool x27, .bool x28, .int .i64 x29, .int .i64 x30, .int .i64 x31, .slice x_a32 x_n33 x_c34] (fun w37 => New w37 5 [.int .u8 130, .int .u8 0, .int .u8 (IntKind.u8.wrap next3)] (fun p39 w40 => Put w40 (p35.add 5) (.slice (some p39) 3 3) (fun w41 => ∃ (x43 x44 : Bool) (x45 x46 x47 : Int) (x_a48 : Option Addr) (x_n49 x_c50 : Nat), Cells w41 p35 0 [.bool x43, .bool x44, .int .i64 x45, .int .i64 x46, .int .i64 x47, .slice x_a48 x_n49 x_c50] ∧ PutAll w41 p5 [.bool x43, .bool x44, .int .i64 x45, .int .i64 x46, .int .i64 x47, .slice x_a48 x_n49 x_c50] (fun w52 => ∃ (r54 r55 : Bool) (r56 r57 r58 : Int) (r_a59 : Option Addr) (r_n60 r_c61 : Nat), Cells w52 p5 0 [.bool r54, .bool r55, .int .i64 r56, .int .i64 r57, .int .i64 r58, .slice r_a59 r_n60 r_c61] ∧ k (.agg #[.bool r54, .bool r55, .int .i64 r56, .int .i64 r57, .int .i64 r58, .slice r_a59 r_n60 r_c61]) w52))))))
/-- spacecraft spacecraftref14.SetNext -/
def F21 (craft1 : Int) (channel2 : Int) (next3 : Int) (w4 : World) (k : Value → World → Prop) : Prop :=
  New w4 24 [.bool false, .bool false, .int .i64 0, .int .i64 0, .int .i64 0, .slice none 0 0] (fun p5 w6 => if next3 < 0 then
  F21_j1 p5 craft1 channel2 next3 true w6 k
else
  F21_j1 p5 craft1 channel2 next3 (decide (255 < next3)) w6 k)
set_option maxRecDepth 100000 in
set_option maxHeartbeats 2000000 in
theorem w21 (craft1 : Int) (channel2 : Int) (next3 : Int) (w4 : World) (k : Value → World → Prop) (h : F21 craft1 channel2 next3 w4 k) : Does Try.prog 21 #[.int .i64 craft1, .int .i64 channel2, .int .i64 next3] w4 k := by
  refine enter 23 Try.func21 rfl rfl rfl ?_
  intro ρ hρ
  have e0 := hρ 0 _ rfl
  have e1 := hρ 1 _ rfl
  have e2 := hρ 2 _ rfl
  unfold F21 at h
  refine WC_seq ?_
  refine WC_region ?_
  have h := New.out h
  refine WL_val gd0 (o_alloc (z := .agg #[.bool false, .bool false, .int .i64 0, .int .i64 0, .int .i64 0, .slice none 0 0]) (cs := [.bool false, .bool false, .int .i64 0, .int .i64 0, .int .i64 0, .slice none 0 0]) Try.zeroValue24 rfl) rfl ?_
  generalize hp5 : fresh w4 = p5 at h ⊢
  generalize hw6 : push w4 24 [.bool false, .bool false, .int .i64 0, .int .i64 0, .int .i64 0, .slice none 0 0] = w6 at h ⊢
  try dsimp only at h
  refine WL_nil ?_
  refine nrm ?_
  refine WC_seq ?_
  refine WC_cut (fun ρ w' => ∃ (t12 : Bool), ρ 13 = .bool t12 ∧ ρ 0 = .int .i64 craft1 ∧ ρ 1 = .int .i64 channel2 ∧ ρ 2 = .int .i64 next3 ∧ ρ 6 = .pointer (some p5) ∧ F21_j1 p5 craft1 channel2 next3 t12 w' k) ?_ ?_
  · refine WC_region ?_
    refine WL_val gd0 ((o_move (v := .int .i64 next3) (by exact e2)) _) rfl ?_
    refine WL_val gd0 ((o_lss rfl rfl) _) rfl ?_
    refine WL_val gd0 ((o_move (v := .bool (decide (next3 < 0))) rfl) _) rfl ?_
    refine bsplit (decide (next3 < 0)) (fun hb63 => ?_) (fun hb63 => ?_)
    · rw [if_pos (of_decide_eq_true hb63)] at h
      refine WL_skip (gdN (b := (decide (next3 < 0))) 10 rfl rfl hb63) rfl ?_
      refine WL_skip (gdN (b := (decide (next3 < 0))) 10 rfl rfl hb63) rfl ?_
      refine WL_val gd0 ((o_pickT (v := .bool true) rfl hb63 rfl) _) rfl ?_
      refine WL_nil ?_
      refine nrm ?_
      exact ⟨_, rfl, e0, e1, e2, rfl, h⟩
    · rw [if_neg (of_decide_eq_false hb63)] at h
      refine WL_val (gdY (b := (decide (next3 < 0))) 10 rfl rfl hb63) ((o_move (v := .int .i64 next3) (by exact e2)) _) rfl ?_
      refine WL_val (gdY (b := (decide (next3 < 0))) 10 rfl rfl hb63) ((o_gtr rfl rfl) _) rfl ?_
      refine WL_val gd0 ((o_pickF (v := .bool (decide (255 < next3))) rfl hb63 rfl) _) rfl ?_
      refine WL_nil ?_
      refine nrm ?_
      exact ⟨_, rfl, e0, e1, e2, rfl, h⟩
  · rintro ρ w13 ⟨t12, e13_11, e0_7, e1_8, e2_9, e6_10, h⟩
    unfold F21_j1 at h
    refine WC_cond (t := t12) (by exact e13_11) (fun hb14 => ?_) (fun hb14 => ?_)
    · rw [if_pos hb14] at h
      refine WC_seq ?_
      refine WC_region ?_
      refine WL_val gd0 ((o_build (ps := []) (v := .agg #[.bool false, .bool false, .int .i64 0, .int .i64 0, .int .i64 0, .slice none 0 0]) partNil (fun w => by kernel_rfl)) _) rfl ?_
      obtain ⟨c16, h⟩ := h
      refine WL_act gd0 (o_storeAgg (vs := [.bool false, .bool false, .int .i64 0, .int .i64 0, .int .i64 0, .slice none 0 0]) Try.sizeOf24 (by exact e6_10) rfl rfl c16) ?_
      generalize hw15 : setAll w13 p5 0 [.bool false, .bool false, .int .i64 0, .int .i64 0, .int .i64 0, .slice none 0 0] = w15 at h ⊢
      try dsimp only at h
      refine WL_nil ?_
      refine nrm ?_
      refine WC_ret ?_
      refine rtT ?_
      refine rtE ?_
      obtain ⟨r17, r18, r19, r20, r21, r_a22, r_n23, r_c24, hc25, h⟩ := h
      exact gvC (vs := [.bool r17, .bool r18, .int .i64 r19, .int .i64 r20, .int .i64 r21, .slice r_a22 r_n23 r_c24]) rfl Try.isAgg24 Try.sizeOf24 (by exact e6_10) hc25 h
    · rw [if_neg (neT hb14)] at h
      refine WC_skip ?_
      refine nrm ?_
      refine WC_seq ?_
      refine WC_region ?_
      refine WL_val gd0 ((o_move (v := .int .i64 craft1) (by exact e0_7)) _) rfl ?_
      refine WL_val gd0 ((o_move (v := .int .i64 channel2) (by exact e1_8)) _) rfl ?_
      refine WL_call gd0 (o_call Try.call20 (argCons rfl (argCons rfl argNil)) _) rfl (h.mono ?_)
      rintro _ w26 ⟨x27, x28, x29, x30, x31, x_a32, x_n33, x_c34, rfl, h⟩
      have h := New.out h
      refine WL_val gd0 (o_alloc (z := .agg #[.bool false, .bool false, .int .i64 0, .int .i64 0, .int .i64 0, .slice none 0 0]) (cs := [.bool false, .bool false, .int .i64 0, .int .i64 0, .int .i64 0, .slice none 0 0]) Try.zeroValue24 rfl) rfl ?_
      generalize hp35 : fresh w26 = p35 at h ⊢
      generalize hw36 : push w26 24 [.bool false, .bool false, .int .i64 0, .int .i64 0, .int .i64 0, .slice none 0 0] = w36 at h ⊢
      try dsimp only at h
      obtain ⟨c38, h⟩ := h
      refine WL_act gd0 (o_storeAgg (vs := [.bool x27, .bool x28, .int .i64 x29, .int .i64 x30, .int .i64 x31, .slice x_a32 x_n33 x_c34]) Try.sizeOf24 rfl rfl rfl c38) ?_
      generalize hw37 : setAll w36 p35 0 [.bool x27, .bool x28, .int .i64 x29, .int .i64 x30, .int .i64 x31, .slice x_a32 x_n33 x_c34] = w37 at h ⊢
      try dsimp only at h
      refine WL_nil ?_
      refine nrm ?_
      refine WC_seq ?_
      refine WC_region ?_
      refine WL_val gd0 ((o_move (v := .int .i64 next3) (by exact e2_9)) _) rfl ?_
      refine WL_val gd0 ((o_conv Try.underlying3 Try.underlying5 rfl) _) rfl ?_
      have h := New.out h
      refine WL_val gd0 (o_buildSlice (e := 5) (ps := [(0, .int .u8 130), (1, .int .u8 0), (2, .int .u8 (IntKind.u8.wrap next3))]) (cs := [.int .u8 130, .int .u8 0, .int .u8 (IntKind.u8.wrap next3)]) (partCons rfl (partCons rfl (partCons rfl partNil))) (fun w => by kernel_rfl)) rfl ?_
      generalize hp39 : fresh w37 = p39 at h ⊢
      generalize hw40 : push w37 5 [.int .u8 130, .int .u8 0, .int .u8 (IntKind.u8.wrap next3)] = w40 at h ⊢
      try dsimp only at h
      refine WL_val gd0 ((o_fieldAddr 5 Try.underlying24 rfl Try.sizeOf22 rfl rfl rfl) _) rfl ?_
      obtain ⟨c42, h⟩ := h
      refine WL_act gd0 (o_store (v := .slice (some p39) 3 3) Try.sizeOf22 rfl rfl rfl c42) ?_
      generalize hw41 : World.setCell w40 (p35.add 5) (.slice (some p39) 3 3) = w41 at h ⊢
      try dsimp only at h
      refine WL_nil ?_
      refine nrm ?_
      refine WC_seq ?_
      refine WC_region ?_
      obtain ⟨x43, x44, x45, x46, x47, x_a48, x_n49, x_c50, hc51, h⟩ := h
      refine WL_val gd0 (o_loadAgg (vs := [.bool x43, .bool x44, .int .i64 x45, .int .i64 x46, .int .i64 x47, .slice x_a48 x_n49 x_c50]) Try.isAgg24 Try.sizeOf24 rfl hc51) rfl ?_
      obtain ⟨c53, h⟩ := h
      refine WL_act gd0 (o_storeAgg (vs := [.bool x43, .bool x44, .int .i64 x45, .int .i64 x46, .int .i64 x47, .slice x_a48 x_n49 x_c50]) Try.sizeOf24 (by exact e6_10) rfl rfl c53) ?_
      generalize hw52 : setAll w41 p5 0 [.bool x43, .bool x44, .int .i64 x45, .int .i64 x46, .int .i64 x47, .slice x_a48 x_n49 x_c50] = w52 at h ⊢
      try dsimp only at h
      refine WL_nil ?_
      refine nrm ?_
      refine WC_ret ?_
      refine rtE ?_
      obtain ⟨r54, r55, r56, r57, r58, r_a59, r_n60, r_c61, hc62, h⟩ := h
      exact gvC (vs := [.bool r54, .bool r55, .int .i64 r56, .int .i64 r57, .int .i64 r58, .slice r_a59 r_n60 r_c61]) rfl Try.isAgg24 Try.sizeOf24 (by exact e6_10) hc62 h

def F22_j2 (b_a9 : Option Addr) (i4 : Int) (k18 : Int) (b_n10 : Nat) (t28 : Bool) (w29 : World) (nx19 : Int → World → Prop) : Prop :=
  if t28 = true then
  ∃ (p33 : Addr), b_a9 = some p33 ∧ (0 : Int) ≤ IntKind.i64.wrap (Int.tdiv (IntKind.i64.wrap (i4 + k18)) 8) ∧ IntKind.i64.wrap (Int.tdiv (IntKind.i64.wrap (i4 + k18)) 8) < (b_n10 : Int) ∧ ∃ (x35 : Int), w29.drew.cell? (p33.add ((IntKind.i64.wrap (Int.tdiv (IntKind.i64.wrap (i4 + k18)) 8)).toNat)) = some (.int .u8 x35) ∧ (0 : Int) ≤ IntKind.i64.wrap (7 - (Int.tmod (IntKind.i64.wrap (i4 + k18)) 8)) ∧ (0 : Int) ≤ IntKind.i64.wrap (Int.tdiv (IntKind.i64.wrap (i4 + k18)) 8) ∧ IntKind.i64.wrap (Int.tdiv (IntKind.i64.wrap (i4 + k18)) 8) < (b_n10 : Int) ∧ Put w29.drew (p33.add ((IntKind.i64.wrap (Int.tdiv (IntKind.i64.wrap (i4 + k18)) 8)).toNat)) (.int .u8 (bxor .u8 x35 (shl .u8 1 (IntKind.i64.wrap (7 - (Int.tmod (IntKind.i64.wrap (i4 + k18)) 8)))))) (fun w40 => nx19 (IntKind.i64.wrap (k18 + 1)) w40)
else
  nx19 (IntKind.i64.wrap (k18 + 1)) w29
def F22_b1 (pattern5 : Int) (b_a9 : Option Addr) (i4 : Int) (b_n10 : Nat) (b_c11 : Nat) (k18 : Int) (w19 : World) (nx19 : Int → World → Prop) (k : Value → World → Prop) : Prop :=
  if k18 < 16 then
  (0 : Int) ≤ IntKind.i64.wrap (15 - k18) ∧ if (Int.tmod (shr .u16 pattern5 (IntKind.i64.wrap (15 - k18))) 2) = 1 then
    F22_j2 b_a9 i4 k18 b_n10 (decide ((IntKind.i64.wrap (i4 + k18)) < (IntKind.i64.wrap (8 * (b_n10 : Int))))) w19 nx19
  else
    F22_j2 b_a9 i4 k18 b_n10 false w19 nx19
else
  k (.slice b_a9 b_n10 b_c11) w19
/-- spacecraft spacecraftlaw14.changed -/
def F22 (b_a1 : Option Addr) (b_n2 : Nat) (b_c3 : Nat) (i4 : Int) (pattern5 : Int) (w6 : World) (k : Value → World → Prop) : Prop :=
  New w6 5 [] (fun p7 w8 => ∃ (b_a9 : Option Addr) (b_n10 b_c11 : Nat) (w12 : World), (Builtin.append_ #[22, 22] 22 #[.slice (some p7) 0 0, .slice b_a1 b_n2 b_c3]).run Try.prog w8 = .ok (.slice b_a9 b_n10 b_c11) w12 ∧ LoopP (fun (s : Int) w' nx' => F22_b1 pattern5 b_a9 i4 b_n10 b_c11 s w' (fun x0 w => nx' x0 w) k) 0 w12)
set_option maxRecDepth 100000 in
set_option maxHeartbeats 2000000 in
theorem w22 (b_a1 : Option Addr) (b_n2 : Nat) (b_c3 : Nat) (i4 : Int) (pattern5 : Int) (w6 : World) (k : Value → World → Prop) (h : F22 b_a1 b_n2 b_c3 i4 pattern5 w6 k) : Does Try.prog 22 #[.slice b_a1 b_n2 b_c3, .int .i64 i4, .int .u16 pattern5] w6 k := by
  refine enter 48 Try.func22 rfl rfl rfl ?_
  intro ρ hρ
  have e0 := hρ 0 _ rfl
  have e1 := hρ 1 _ rfl
  have e2 := hρ 2 _ rfl
  unfold F22 at h
  refine WC_seq ?_
  refine WC_region ?_
  refine WL_val gd0 ((o_assign (v := .slice none 0 0) rfl) _) rfl ?_
  refine WL_nil ?_
  refine nrm ?_
  refine WC_seq ?_
  refine WC_region ?_
  have h := New.out h
  refine WL_val gd0 (o_buildSlice (e := 5) (ps := []) (cs := []) partNil (fun w => by kernel_rfl)) rfl ?_
  generalize hp7 : fresh w6 = p7 at h ⊢
  generalize hw8 : push w6 5 [] = w8 at h ⊢
  try dsimp only at h
  refine WL_val gd0 ((o_move (v := .slice b_a1 b_n2 b_c3) (by exact e0)) _) rfl ?_
  obtain ⟨b_a9, b_n10, b_c11, w12, r13, h⟩ := h
  refine WL_val gd0 (o_append rfl rfl r13) rfl ?_
  refine WL_val gd0 ((o_assign (v := .slice b_a9 b_n10 b_c11) rfl) _) rfl ?_
  refine WL_nil ?_
  refine nrm ?_
  refine WC_seq ?_
  refine WC_seq ?_
  refine WC_region ?_
  refine WL_val gd0 ((o_assign (v := .int .i64 0) rfl) _) rfl ?_
  refine WL_nil ?_
  refine nrm ?_
  refine WC_block ?_
  obtain ⟨J19, ⟨n19, h0⟩, hr19⟩ := h
  refine WC_loop (fun n ρ w' => ∃ (k18 : Int), ρ 8 = .int .i64 k18 ∧ ρ 1 = .int .i64 i4 ∧ ρ 2 = .int .u16 pattern5 ∧ ρ 7 = .slice b_a9 b_n10 b_c11 ∧ J19 n k18 w') ⟨n19, _, rfl, e1, e2, rfl, h0⟩ ?_
  rintro n19 ρ w19 ⟨k18, e8_17, e1_14, e2_15, e7_16, h⟩
  have h : F22_b1 pattern5 b_a9 i4 b_n10 b_c11 k18 w19 (fun x0 w => ∃ m, m < n19 ∧ J19 m x0 w) k := hr19 n19 k18 w19 h
  unfold F22_b1 at h
  refine WC_seq ?_
  refine WC_seq ?_
  refine WC_region ?_
  refine WL_val gd0 ((o_move (v := .int .i64 k18) (by exact e8_17)) _) rfl ?_
  refine WL_val gd0 ((o_lss rfl rfl) _) rfl ?_
  refine WL_nil ?_
  refine nrm ?_
  refine WC_cond (t := (decide (k18 < 16))) rfl (fun hb21 => ?_) (fun hb21 => ?_)
  · rw [if_pos (of_decide_eq_true hb21)] at h
    refine WC_skip ?_
    refine nrm ?_
    refine WC_seq ?_
    refine WC_block ?_
    refine WC_seq ?_
    refine WC_region ?_
    refine WL_val gd0 ((o_move (v := .int .i64 i4) (by exact e1_14)) _) rfl ?_
    refine WL_val gd0 ((o_move (v := .int .i64 k18) (by exact e8_17)) _) rfl ?_
    refine WL_val gd0 ((o_add rfl rfl) _) rfl ?_
    refine WL_val gd0 ((o_assign (v := .int .i64 (IntKind.i64.wrap (i4 + k18))) rfl) _) rfl ?_
    refine WL_nil ?_
    refine nrm ?_
    refine WC_cut (fun ρ w' => ∃ (t28 : Bool), ρ 32 = .bool t28 ∧ ρ 1 = .int .i64 i4 ∧ ρ 2 = .int .u16 pattern5 ∧ ρ 7 = .slice b_a9 b_n10 b_c11 ∧ ρ 8 = .int .i64 k18 ∧ ρ 9 = .int .i64 (IntKind.i64.wrap (i4 + k18)) ∧ F22_j2 b_a9 i4 k18 b_n10 t28 w' (fun x0 w => ∃ m, m < n19 ∧ J19 m x0 w)) ?_ ?_
    · refine WC_region ?_
      refine WL_val gd0 ((o_move (v := .int .u16 pattern5) (by exact e2_15)) _) rfl ?_
      refine WL_val gd0 ((o_move (v := .int .i64 k18) (by exact e8_17)) _) rfl ?_
      refine WL_val gd0 ((o_sub rfl rfl) _) rfl ?_
      obtain ⟨c42, h⟩ := h
      refine WL_val gd0 ((o_shr rfl rfl c42) _) rfl ?_
      refine WL_val gd0 ((fun w => o_rem rfl rfl w (by decide)) _) rfl ?_
      refine WL_val gd0 ((o_eql rfl rfl) _) rfl ?_
      refine WL_val gd0 ((o_move (v := .bool (decide ((Int.tmod (shr .u16 pattern5 (IntKind.i64.wrap (15 - k18))) 2) = 1))) rfl) _) rfl ?_
      refine bsplit (decide ((Int.tmod (shr .u16 pattern5 (IntKind.i64.wrap (15 - k18))) 2) = 1)) (fun hb43 => ?_) (fun hb43 => ?_)
      · rw [if_pos (of_decide_eq_true hb43)] at h
        refine WL_val (gdY (b := (decide ((Int.tmod (shr .u16 pattern5 (IntKind.i64.wrap (15 - k18))) 2) = 1))) 26 rfl rfl hb43) ((o_move (v := .int .i64 (IntKind.i64.wrap (i4 + k18))) rfl) _) rfl ?_
        refine WL_val (gdY (b := (decide ((Int.tmod (shr .u16 pattern5 (IntKind.i64.wrap (15 - k18))) 2) = 1))) 26 rfl rfl hb43) ((o_move (v := .slice b_a9 b_n10 b_c11) (by exact e7_16)) _) rfl ?_
        refine WL_val (gdY (b := (decide ((Int.tmod (shr .u16 pattern5 (IntKind.i64.wrap (15 - k18))) 2) = 1))) 26 rfl rfl hb43) ((o_len Try.underlying22 rfl) _) rfl ?_
        refine WL_val (gdY (b := (decide ((Int.tmod (shr .u16 pattern5 (IntKind.i64.wrap (15 - k18))) 2) = 1))) 26 rfl rfl hb43) ((o_mul rfl rfl) _) rfl ?_
        refine WL_val (gdY (b := (decide ((Int.tmod (shr .u16 pattern5 (IntKind.i64.wrap (15 - k18))) 2) = 1))) 26 rfl rfl hb43) ((o_lss rfl rfl) _) rfl ?_
        refine WL_val gd0 ((o_pickT (v := .bool (decide ((IntKind.i64.wrap (i4 + k18)) < (IntKind.i64.wrap (8 * (b_n10 : Int)))))) rfl hb43 rfl) _) rfl ?_
        refine WL_nil ?_
        refine nrm ?_
        exact ⟨_, rfl, e1_14, e2_15, e7_16, e8_17, rfl, h⟩
      · rw [if_neg (of_decide_eq_false hb43)] at h
        refine WL_skip (gdN (b := (decide ((Int.tmod (shr .u16 pattern5 (IntKind.i64.wrap (15 - k18))) 2) = 1))) 26 rfl rfl hb43) rfl ?_
        refine WL_skip (gdN (b := (decide ((Int.tmod (shr .u16 pattern5 (IntKind.i64.wrap (15 - k18))) 2) = 1))) 26 rfl rfl hb43) rfl ?_
        refine WL_skip (gdN (b := (decide ((Int.tmod (shr .u16 pattern5 (IntKind.i64.wrap (15 - k18))) 2) = 1))) 26 rfl rfl hb43) rfl ?_
        refine WL_skip (gdN (b := (decide ((Int.tmod (shr .u16 pattern5 (IntKind.i64.wrap (15 - k18))) 2) = 1))) 26 rfl rfl hb43) rfl ?_
        refine WL_skip (gdN (b := (decide ((Int.tmod (shr .u16 pattern5 (IntKind.i64.wrap (15 - k18))) 2) = 1))) 26 rfl rfl hb43) rfl ?_
        refine WL_val gd0 ((o_pickF (v := .bool false) rfl hb43 rfl) _) rfl ?_
        refine WL_nil ?_
        refine nrm ?_
        exact ⟨_, rfl, e1_14, e2_15, e7_16, e8_17, rfl, h⟩
    · rintro ρ w29 ⟨t28, e32_27, e1_22, e2_23, e7_24, e8_25, e9_26, h⟩
      unfold F22_j2 at h
      refine WC_cond (t := t28) (by exact e32_27) (fun hb30 => ?_) (fun hb30 => ?_)
      · rw [if_pos hb30] at h
        refine WC_draws [14] (.look 0 (.look 1 (.look 2 (.look 3 (.look 4 (.look 5 (.look 6 (.look 7 (.look 8 (.look 9 (.look 10 (.look 11 (.look 12 (.look 13 (.act 14 .nil))))))))))))))) Try.mixed (by kernel_rfl) ?_
        refine WQ_val rfl gd0 (o_move (v := .slice b_a9 b_n10 b_c11) (by exact e7_24)) rfl ?_
        refine WQ_val rfl gd0 (o_move (v := .int .i64 (IntKind.i64.wrap (i4 + k18))) (by exact e9_26)) rfl ?_
        refine WQ_val rfl gd0 (fun w => o_quo rfl rfl w (by decide)) rfl ?_
        refine WQ_val rfl gd0 (o_move (v := .slice b_a9 b_n10 b_c11) (by exact e7_24)) rfl ?_
        refine WQ_val rfl gd0 (o_move (v := .int .i64 (IntKind.i64.wrap (i4 + k18))) (by exact e9_26)) rfl ?_
        refine WQ_val rfl gd0 (fun w => o_quo rfl rfl w (by decide)) rfl ?_
        obtain ⟨p33, q34, h⟩ := h
        obtain ⟨l31, u32, h⟩ := h
        refine WQ_val rfl gd0 (o_indexAddr1 Try.underlying22 Try.sizeOf5 (by exact (congrArg (fun z => Value.slice z b_n10 b_c11) q34)) rfl l31 u32) rfl ?_
        obtain ⟨x35, hc36, h⟩ := h
        refine WQ_look (fun w => w.cell? (p33.add ((IntKind.i64.wrap (Int.tdiv (IntKind.i64.wrap (i4 + k18)) 8)).toNat)) = some (.int .u8 x35)) rfl gd0 (fun w hc => (o_load Try.isAgg5 rfl hc)) hc36 rfl ?_
        refine WQ_val rfl gd0 (o_move (v := .int .i64 (IntKind.i64.wrap (i4 + k18))) (by exact e9_26)) rfl ?_
        refine WQ_val rfl gd0 (fun w => o_rem rfl rfl w (by decide)) rfl ?_
        refine WQ_val rfl gd0 (o_sub rfl rfl) rfl ?_
        obtain ⟨c37, h⟩ := h
        refine WQ_val rfl gd0 (o_shl rfl rfl c37) rfl ?_
        refine WQ_val rfl gd0 (o_xor rfl rfl) rfl ?_
        obtain ⟨l38, u39, h⟩ := h
        refine WQ_val rfl gd0 (o_indexAddr1 Try.underlying22 Try.sizeOf5 (by exact (congrArg (fun z => Value.slice z b_n10 b_c11) q34)) rfl l38 u39) rfl ?_
        obtain ⟨c41, h⟩ := h
        refine WQ_do rfl gd0 (o_store (v := .int .u8 (bxor .u8 x35 (shl .u8 1 (IntKind.i64.wrap (7 - (Int.tmod (IntKind.i64.wrap (i4 + k18)) 8)))))) Try.sizeOf5 rfl rfl rfl c41) (by exact ⟨trivial, depT (by kernel_rfl)⟩) ?_
        generalize hw40 : World.setCell w29.drew (p33.add ((IntKind.i64.wrap (Int.tdiv (IntKind.i64.wrap (i4 + k18)) 8)).toNat)) (.int .u8 (bxor .u8 x35 (shl .u8 1 (IntKind.i64.wrap (7 - (Int.tmod (IntKind.i64.wrap (i4 + k18)) 8)))))) = w40 at h ⊢
        try dsimp only at h
        refine WQ_nil ?_
        refine nrmB ?_
        refine nrm ?_
        refine WC_region ?_
        refine WL_val gd0 ((o_move (v := .int .i64 k18) (by exact e8_25)) _) rfl ?_
        refine WL_val gd0 ((o_add rfl rfl) _) rfl ?_
        refine WL_val gd0 ((o_assign (v := .int .i64 (IntKind.i64.wrap (k18 + 1))) rfl) _) rfl ?_
        refine WL_nil ?_
        refine nrm ?_
        obtain ⟨m20, hm20, h⟩ := h
        exact ⟨m20, hm20, _, rfl, e1_22, e2_23, e7_24, h⟩
      · rw [if_neg (neT hb30)] at h
        refine WC_skip ?_
        refine nrmB ?_
        refine nrm ?_
        refine WC_region ?_
        refine WL_val gd0 ((o_move (v := .int .i64 k18) (by exact e8_25)) _) rfl ?_
        refine WL_val gd0 ((o_add rfl rfl) _) rfl ?_
        refine WL_val gd0 ((o_assign (v := .int .i64 (IntKind.i64.wrap (k18 + 1))) rfl) _) rfl ?_
        refine WL_nil ?_
        refine nrm ?_
        obtain ⟨m20, hm20, h⟩ := h
        exact ⟨m20, hm20, _, rfl, e1_22, e2_23, e7_24, h⟩
  · rw [if_neg (of_decide_eq_false hb21)] at h
    refine WC_exit ?_
    refine exT ?_
    refine exT ?_
    refine exB ?_
    refine nrm ?_
    refine WC_seq ?_
    refine WC_region ?_
    refine WL_val gd0 ((o_move (v := .slice b_a9 b_n10 b_c11) (by exact e7_16)) _) rfl ?_
    refine WL_val gd0 ((o_assign (v := .slice b_a9 b_n10 b_c11) rfl) _) rfl ?_
    refine WL_nil ?_
    refine nrm ?_
    refine WC_ret ?_
    refine rtE ?_
    exact gv1 rfl rfl h

/-- spacecraft spacecraftref01.Append16 -/
def F23 (b_a1 : Option Addr) (b_n2 : Nat) (b_c3 : Nat) (w4 : World) (k : Value → World → Prop) : Prop :=
  Does Try.prog 32 #[.slice b_a1 b_n2 b_c3] w4 (fun v w5 => ∃ (s6 : Int), v = .int .u16 s6 ∧ New w5 5 [] (fun p7 w8 => ∃ (b_a9 : Option Addr) (b_n10 b_c11 : Nat) (w12 : World), (Builtin.append_ #[22, 22] 22 #[.slice (some p7) 0 0, .slice b_a1 b_n2 b_c3]).run Try.prog w8 = .ok (.slice b_a9 b_n10 b_c11) w12 ∧ New w12 5 [.int .u8 (IntKind.u8.wrap (IntKind.u16.wrap (Int.tdiv s6 256))), .int .u8 (IntKind.u8.wrap (Int.tmod s6 256))] (fun p14 w15 => ∃ (b_a16 : Option Addr) (b_n17 b_c18 : Nat) (w19 : World), (Builtin.append_ #[22, 22] 22 #[.slice b_a9 b_n10 b_c11, .slice (some p14) 2 2]).run Try.prog w15 = .ok (.slice b_a16 b_n17 b_c18) w19 ∧ k (.slice b_a16 b_n17 b_c18) w19)))
set_option maxRecDepth 100000 in
set_option maxHeartbeats 2000000 in
theorem w23 (b_a1 : Option Addr) (b_n2 : Nat) (b_c3 : Nat) (w4 : World) (k : Value → World → Prop) (h : F23 b_a1 b_n2 b_c3 w4 k) : Does Try.prog 23 #[.slice b_a1 b_n2 b_c3] w4 k := by
  refine enter 17 Try.func23 rfl rfl rfl ?_
  intro ρ hρ
  have e0 := hρ 0 _ rfl
  unfold F23 at h
  refine WC_seq ?_
  refine WC_region ?_
  refine WL_val gd0 ((o_assign (v := .slice none 0 0) rfl) _) rfl ?_
  refine WL_nil ?_
  refine nrm ?_
  refine WC_seq ?_
  refine WC_region ?_
  refine WL_val gd0 ((o_move (v := .slice b_a1 b_n2 b_c3) (by exact e0)) _) rfl ?_
  refine WL_call gd0 (o_call Try.call32 (argCons rfl argNil) _) rfl (h.mono ?_)
  rintro _ w5 ⟨s6, rfl, h⟩
  refine WL_val gd0 ((o_assign (v := .int .u16 s6) rfl) _) rfl ?_
  refine WL_nil ?_
  refine nrm ?_
  refine WC_seq ?_
  refine WC_region ?_
  have h := New.out h
  refine WL_val gd0 (o_buildSlice (e := 5) (ps := []) (cs := []) partNil (fun w => by kernel_rfl)) rfl ?_
  generalize hp7 : fresh w5 = p7 at h ⊢
  generalize hw8 : push w5 5 [] = w8 at h ⊢
  try dsimp only at h
  refine WL_val gd0 ((o_move (v := .slice b_a1 b_n2 b_c3) (by exact e0)) _) rfl ?_
  obtain ⟨b_a9, b_n10, b_c11, w12, r13, h⟩ := h
  refine WL_val gd0 (o_append rfl rfl r13) rfl ?_
  refine WL_val gd0 ((o_move (v := .int .u16 s6) rfl) _) rfl ?_
  refine WL_val gd0 ((fun w => o_quo rfl rfl w (by decide)) _) rfl ?_
  refine WL_val gd0 ((o_conv Try.underlying39 Try.underlying5 rfl) _) rfl ?_
  refine WL_val gd0 ((o_move (v := .int .u16 s6) rfl) _) rfl ?_
  refine WL_val gd0 ((fun w => o_rem rfl rfl w (by decide)) _) rfl ?_
  refine WL_val gd0 ((o_conv Try.underlying39 Try.underlying5 rfl) _) rfl ?_
  have h := New.out h
  refine WL_val gd0 (o_buildSlice (e := 5) (ps := [(0, .int .u8 (IntKind.u8.wrap (IntKind.u16.wrap (Int.tdiv s6 256)))), (1, .int .u8 (IntKind.u8.wrap (Int.tmod s6 256)))]) (cs := [.int .u8 (IntKind.u8.wrap (IntKind.u16.wrap (Int.tdiv s6 256))), .int .u8 (IntKind.u8.wrap (Int.tmod s6 256))]) (partCons rfl (partCons rfl partNil)) (fun w => by kernel_rfl)) rfl ?_
  generalize hp14 : fresh w12 = p14 at h ⊢
  generalize hw15 : push w12 5 [.int .u8 (IntKind.u8.wrap (IntKind.u16.wrap (Int.tdiv s6 256))), .int .u8 (IntKind.u8.wrap (Int.tmod s6 256))] = w15 at h ⊢
  try dsimp only at h
  obtain ⟨b_a16, b_n17, b_c18, w19, r20, h⟩ := h
  refine WL_val gd0 (o_append rfl rfl r20) rfl ?_
  refine WL_val gd0 ((o_assign (v := .slice b_a16 b_n17 b_c18) rfl) _) rfl ?_
  refine WL_nil ?_
  refine nrm ?_
  refine WC_ret ?_
  refine rtE ?_
  exact gv1 rfl rfl h

/-- spacecraft crc.Append16 -/
def F24 (b_a1 : Option Addr) (b_n2 : Nat) (b_c3 : Nat) (w4 : World) (k : Value → World → Prop) : Prop :=
  Does Try.prog 33 #[.slice b_a1 b_n2 b_c3] w4 (fun v w5 => ∃ (s6 : Int), v = .int .u16 s6 ∧ Does Try.prog 29 #[.slice b_a1 b_n2 b_c3] w5 (fun v w7 => ∃ (x_a8 : Option Addr) (x_n9 x_c10 : Nat), v = .slice x_a8 x_n9 x_c10 ∧ New w7 5 [.int .u8 (IntKind.u8.wrap (shr .u16 s6 8)), .int .u8 (IntKind.u8.wrap s6)] (fun p11 w12 => ∃ (b_a13 : Option Addr) (b_n14 b_c15 : Nat) (w16 : World), (Builtin.append_ #[22, 22] 22 #[.slice x_a8 x_n9 x_c10, .slice (some p11) 2 2]).run Try.prog w12 = .ok (.slice b_a13 b_n14 b_c15) w16 ∧ k (.slice b_a13 b_n14 b_c15) w16)))
set_option maxRecDepth 100000 in
set_option maxHeartbeats 2000000 in
theorem w24 (b_a1 : Option Addr) (b_n2 : Nat) (b_c3 : Nat) (w4 : World) (k : Value → World → Prop) (h : F24 b_a1 b_n2 b_c3 w4 k) : Does Try.prog 24 #[.slice b_a1 b_n2 b_c3] w4 k := by
  refine enter 15 Try.func24 rfl rfl rfl ?_
  intro ρ hρ
  have e0 := hρ 0 _ rfl
  unfold F24 at h
  refine WC_seq ?_
  refine WC_region ?_
  refine WL_val gd0 ((o_assign (v := .slice none 0 0) rfl) _) rfl ?_
  refine WL_nil ?_
  refine nrm ?_
  refine WC_seq ?_
  refine WC_region ?_
  refine WL_val gd0 ((o_move (v := .slice b_a1 b_n2 b_c3) (by exact e0)) _) rfl ?_
  refine WL_call gd0 (o_call Try.call33 (argCons rfl argNil) _) rfl (h.mono ?_)
  rintro _ w5 ⟨s6, rfl, h⟩
  refine WL_val gd0 ((o_assign (v := .int .u16 s6) rfl) _) rfl ?_
  refine WL_nil ?_
  refine nrm ?_
  refine WC_seq ?_
  refine WC_region ?_
  refine WL_val gd0 ((o_move (v := .slice b_a1 b_n2 b_c3) (by exact e0)) _) rfl ?_
  refine WL_call gd0 (o_call Try.call29 (argCons rfl argNil) _) rfl (h.mono ?_)
  rintro _ w7 ⟨x_a8, x_n9, x_c10, rfl, h⟩
  refine WL_val gd0 ((o_move (v := .int .u16 s6) rfl) _) rfl ?_
  refine WL_val gd0 ((o_shr rfl rfl (by decide)) _) rfl ?_
  refine WL_val gd0 ((o_conv Try.underlying39 Try.underlying5 rfl) _) rfl ?_
  refine WL_val gd0 ((o_move (v := .int .u16 s6) rfl) _) rfl ?_
  refine WL_val gd0 ((o_conv Try.underlying39 Try.underlying5 rfl) _) rfl ?_
  have h := New.out h
  refine WL_val gd0 (o_buildSlice (e := 5) (ps := [(0, .int .u8 (IntKind.u8.wrap (shr .u16 s6 8))), (1, .int .u8 (IntKind.u8.wrap s6))]) (cs := [.int .u8 (IntKind.u8.wrap (shr .u16 s6 8)), .int .u8 (IntKind.u8.wrap s6)]) (partCons rfl (partCons rfl partNil)) (fun w => by kernel_rfl)) rfl ?_
  generalize hp11 : fresh w7 = p11 at h ⊢
  generalize hw12 : push w7 5 [.int .u8 (IntKind.u8.wrap (shr .u16 s6 8)), .int .u8 (IntKind.u8.wrap s6)] = w12 at h ⊢
  try dsimp only at h
  obtain ⟨b_a13, b_n14, b_c15, w16, r17, h⟩ := h
  refine WL_val gd0 (o_append rfl rfl r17) rfl ?_
  refine WL_val gd0 ((o_assign (v := .slice b_a13 b_n14 b_c15) rfl) _) rfl ?_
  refine WL_nil ?_
  refine nrm ?_
  refine WC_ret ?_
  refine rtE ?_
  exact gv1 rfl rfl h

/-- spacecraft tcframe.header -/
def F25 (f1 : Bool) (f2 : Bool) (f3 : Int) (f4 : Int) (f5 : Int) (f_a6 : Option Addr) (f_n7 : Nat) (f_c8 : Nat) (w9 : World) (k : Value → World → Prop) : Prop :=
  New w9 24 [.bool f1, .bool f2, .int .i64 f3, .int .i64 f4, .int .i64 f5, .slice f_a6 f_n7 f_c8] (fun p10 w11 => ∃ (x12 : Bool), w11.drew.cell? p10 = some (.bool x12) ∧ ∃ (x14 : Bool), w11.drew.cell? (p10.add 1) = some (.bool x14) ∧ Does Try.prog 34 #[] w11.drew (fun v w16 => ∃ (x17 : Option Addr), v = .pointer x17 ∧ w16.cell? p10 = some (.bool x12) ∧ w16.cell? (p10.add 1) = some (.bool x14) ∧ Does Try.prog 35 #[.pointer x17, .int .u64 0, .int .i64 2] w16 (fun v w20 => ∃ (x21 : Option Addr), v = .pointer x21 ∧ w20.cell? p10 = some (.bool x12) ∧ w20.cell? (p10.add 1) = some (.bool x14) ∧ Does Try.prog 36 #[.bool x12] w20 (fun v w24 => ∃ (x25 : Int), v = .int .u64 x25 ∧ w24.cell? (p10.add 1) = some (.bool x14) ∧ Does Try.prog 35 #[.pointer x21, .int .u64 x25, .int .i64 1] w24 (fun v w27 => ∃ (x28 : Option Addr), v = .pointer x28 ∧ w27.cell? (p10.add 1) = some (.bool x14) ∧ Does Try.prog 36 #[.bool x14] w27 (fun v w30 => ∃ (x31 : Int), v = .int .u64 x31 ∧ Does Try.prog 35 #[.pointer x28, .int .u64 x31, .int .i64 1] w30 (fun v w32 => ∃ (x33 : Option Addr), v = .pointer x33 ∧ Does Try.prog 35 #[.pointer x33, .int .u64 0, .int .i64 2] w32 (fun v w34 => ∃ (w35 : Option Addr), v = .pointer w35 ∧ ∃ (x36 : Int), w34.drew.cell? (p10.add 2) = some (.int .i64 x36) ∧ ∃ (x38 : Int), w34.drew.cell? (p10.add 3) = some (.int .i64 x38) ∧ ∃ (x_a40 : Option Addr) (x_n41 x_c42 : Nat), w34.drew.cell? (p10.add 5) = some (.slice x_a40 x_n41 x_c42) ∧ ∃ (x44 : Int), w34.drew.cell? (p10.add 4) = some (.int .i64 x44) ∧ Does Try.prog 35 #[.pointer w35, .int .u64 (IntKind.u64.wrap x36), .int .i64 10] w34.drew (fun v w46 => ∃ (x47 : Option Addr), v = .pointer x47 ∧ w46.cell? (p10.add 3) = some (.int .i64 x38) ∧ w46.cell? (p10.add 5) = some (.slice x_a40 x_n41 x_c42) ∧ w46.cell? (p10.add 4) = some (.int .i64 x44) ∧ Does Try.prog 35 #[.pointer x47, .int .u64 (IntKind.u64.wrap x38), .int .i64 6] w46 (fun v w51 => ∃ (x52 : Option Addr), v = .pointer x52 ∧ w51.cell? (p10.add 5) = some (.slice x_a40 x_n41 x_c42) ∧ w51.cell? (p10.add 4) = some (.int .i64 x44) ∧ Does Try.prog 35 #[.pointer x52, .int .u64 (IntKind.u64.wrap (IntKind.i64.wrap ((IntKind.i64.wrap ((x_n41 : Int) + 7)) - 1))), .int .i64 10] w51 (fun v w55 => ∃ (x56 : Option Addr), v = .pointer x56 ∧ w55.cell? (p10.add 4) = some (.int .i64 x44) ∧ Does Try.prog 35 #[.pointer x56, .int .u64 (IntKind.u64.wrap x44), .int .i64 8] w55 (fun v w58 => ∃ (x59 : Option Addr), v = .pointer x59 ∧ Does Try.prog 37 #[.pointer w35] w58 (fun v w60 => ∃ (t_a61 : Option Addr) (t_n62 t_c63 : Nat), v = .slice t_a61 t_n62 t_c63 ∧ k (.slice t_a61 t_n62 t_c63) w60)))))))))))))
set_option maxRecDepth 100000 in
set_option maxHeartbeats 2000000 in
theorem w25 (f1 : Bool) (f2 : Bool) (f3 : Int) (f4 : Int) (f5 : Int) (f_a6 : Option Addr) (f_n7 : Nat) (f_c8 : Nat) (w9 : World) (k : Value → World → Prop) (h : F25 f1 f2 f3 f4 f5 f_a6 f_n7 f_c8 w9 k) : Does Try.prog 25 #[.agg #[.bool f1, .bool f2, .int .i64 f3, .int .i64 f4, .int .i64 f5, .slice f_a6 f_n7 f_c8]] w9 k := by
  refine enter 37 Try.func25 rfl rfl rfl ?_
  intro ρ hρ
  have e0 := hρ 0 _ rfl
  unfold F25 at h
  refine WC_seq ?_
  refine WC_region ?_
  have h := New.out h
  refine WL_val gd0 (o_box (v := .agg #[.bool f1, .bool f2, .int .i64 f3, .int .i64 f4, .int .i64 f5, .slice f_a6 f_n7 f_c8]) (cs := [.bool f1, .bool f2, .int .i64 f3, .int .i64 f4, .int .i64 f5, .slice f_a6 f_n7 f_c8]) (by exact e0) rfl) rfl ?_
  generalize hp10 : fresh w9 = p10 at h ⊢
  generalize hw11 : push w9 24 [.bool f1, .bool f2, .int .i64 f3, .int .i64 f4, .int .i64 f5, .slice f_a6 f_n7 f_c8] = w11 at h ⊢
  try dsimp only at h
  refine WL_val gd0 ((o_assign (v := .slice none 0 0) rfl) _) rfl ?_
  refine WL_nil ?_
  refine nrm ?_
  refine WC_seq ?_
  refine WC_draws [0, 1, 4, 5, 8, 9, 10] (.look 2 (.look 3 (.look 6 (.look 7 (.act 0 (.act 1 (.act 4 (.act 5 (.act 8 (.act 9 (.act 10 (.look 11 .nil)))))))))))) Try.mixed (by kernel_rfl) ?_
  refine WQ_val rfl gd0 (o_fieldAddr0 Try.underlying24 rfl Try.sizeOf4 rfl rfl rfl) rfl ?_
  obtain ⟨x12, hc13, h⟩ := h
  refine WQ_look (fun w => w.cell? p10 = some (.bool x12)) rfl gd0 (fun w hc => (o_load Try.isAgg4 rfl hc)) hc13 rfl ?_
  refine WQ_val rfl gd0 (o_fieldAddr 1 Try.underlying24 rfl Try.sizeOf4 rfl rfl rfl) rfl ?_
  obtain ⟨x14, hc15, h⟩ := h
  refine WQ_look (fun w => w.cell? (p10.add 1) = some (.bool x14)) rfl gd0 (fun w hc => (o_load Try.isAgg4 rfl hc)) hc15 rfl ?_
  refine WQ_call rfl gd0 (o_call Try.call34 argNil _) rfl (h.mono ?_)
  rintro _ w16 ⟨x17, rfl, hh18, hh19, h⟩
  refine ⟨⟨⟨trivial, fun _ => hh18⟩, fun _ => hh19⟩, ?_⟩
  refine WQ_call rfl gd0 (o_call Try.call35 (argCons rfl (argCons rfl (argCons rfl argNil))) _) rfl (h.mono ?_)
  rintro _ w20 ⟨x21, rfl, hh22, hh23, h⟩
  refine ⟨⟨⟨trivial, fun _ => hh22⟩, fun _ => hh23⟩, ?_⟩
  refine WQ_call rfl gd0 (o_call Try.call36 (argCons rfl argNil) _) rfl (h.mono ?_)
  rintro _ w24 ⟨x25, rfl, hh26, h⟩
  refine ⟨⟨⟨trivial, depT (by kernel_rfl)⟩, fun _ => hh26⟩, ?_⟩
  refine WQ_call rfl gd0 (o_call Try.call35 (argCons rfl (argCons rfl (argCons rfl argNil))) _) rfl (h.mono ?_)
  rintro _ w27 ⟨x28, rfl, hh29, h⟩
  refine ⟨⟨⟨trivial, depT (by kernel_rfl)⟩, fun _ => hh29⟩, ?_⟩
  refine WQ_call rfl gd0 (o_call Try.call36 (argCons rfl argNil) _) rfl (h.mono ?_)
  rintro _ w30 ⟨x31, rfl, h⟩
  refine ⟨⟨⟨trivial, depT (by kernel_rfl)⟩, depT (by kernel_rfl)⟩, ?_⟩
  refine WQ_call rfl gd0 (o_call Try.call35 (argCons rfl (argCons rfl (argCons rfl argNil))) _) rfl (h.mono ?_)
  rintro _ w32 ⟨x33, rfl, h⟩
  refine ⟨⟨⟨trivial, depT (by kernel_rfl)⟩, depT (by kernel_rfl)⟩, ?_⟩
  refine WQ_call rfl gd0 (o_call Try.call35 (argCons rfl (argCons rfl (argCons rfl argNil))) _) rfl (h.mono ?_)
  rintro _ w34 ⟨w35, rfl, h⟩
  refine ⟨⟨⟨trivial, depT (by kernel_rfl)⟩, depT (by kernel_rfl)⟩, ?_⟩
  refine WQ_val rfl gd0 (o_assign (v := .pointer w35) rfl) rfl ?_
  refine WQ_nil ?_
  refine nrm ?_
  refine WC_seq ?_
  refine WC_draws [4, 8, 15, 19] (.look 0 (.look 1 (.look 2 (.look 3 (.look 5 (.look 6 (.look 7 (.look 9 (.look 10 (.look 11 (.look 12 (.look 13 (.look 14 (.look 16 (.look 17 (.look 18 (.act 4 (.act 8 (.act 15 (.act 19 .nil)))))))))))))))))))) Try.mixed (by kernel_rfl) ?_
  refine WQ_val rfl gd0 (o_move (v := .pointer w35) rfl) rfl ?_
  refine WQ_val rfl gd0 (o_fieldAddr 2 Try.underlying24 rfl Try.sizeOf3 rfl rfl rfl) rfl ?_
  obtain ⟨x36, hc37, h⟩ := h
  refine WQ_look (fun w => w.cell? (p10.add 2) = some (.int .i64 x36)) rfl gd0 (fun w hc => (o_load Try.isAgg3 rfl hc)) hc37 rfl ?_
  refine WQ_val rfl gd0 (o_conv Try.underlying3 Try.underlying46 rfl) rfl ?_
  refine WQ_val rfl gd0 (o_fieldAddr 3 Try.underlying24 rfl Try.sizeOf3 rfl rfl rfl) rfl ?_
  obtain ⟨x38, hc39, h⟩ := h
  refine WQ_look (fun w => w.cell? (p10.add 3) = some (.int .i64 x38)) rfl gd0 (fun w hc => (o_load Try.isAgg3 rfl hc)) hc39 rfl ?_
  refine WQ_val rfl gd0 (o_conv Try.underlying3 Try.underlying46 rfl) rfl ?_
  refine WQ_val rfl gd0 (o_fieldAddr 5 Try.underlying24 rfl Try.sizeOf22 rfl rfl rfl) rfl ?_
  obtain ⟨x_a40, x_n41, x_c42, hc43, h⟩ := h
  refine WQ_look (fun w => w.cell? (p10.add 5) = some (.slice x_a40 x_n41 x_c42)) rfl gd0 (fun w hc => (o_load Try.isAgg22 rfl hc)) hc43 rfl ?_
  refine WQ_val rfl gd0 (o_len Try.underlying22 rfl) rfl ?_
  refine WQ_val rfl gd0 (o_add rfl rfl) rfl ?_
  refine WQ_val rfl gd0 (o_sub rfl rfl) rfl ?_
  refine WQ_val rfl gd0 (o_conv Try.underlying3 Try.underlying46 rfl) rfl ?_
  refine WQ_val rfl gd0 (o_fieldAddr 4 Try.underlying24 rfl Try.sizeOf3 rfl rfl rfl) rfl ?_
  obtain ⟨x44, hc45, h⟩ := h
  refine WQ_look (fun w => w.cell? (p10.add 4) = some (.int .i64 x44)) rfl gd0 (fun w hc => (o_load Try.isAgg3 rfl hc)) hc45 rfl ?_
  refine WQ_val rfl gd0 (o_conv Try.underlying3 Try.underlying46 rfl) rfl ?_
  refine WQ_call rfl gd0 (o_call Try.call35 (argCons rfl (argCons rfl (argCons rfl argNil))) _) rfl (h.mono ?_)
  rintro _ w46 ⟨x47, rfl, hh48, hh49, hh50, h⟩
  refine ⟨⟨⟨⟨⟨trivial, depT (by kernel_rfl)⟩, fun _ => hh48⟩, fun _ => hh49⟩, fun _ => hh50⟩, ?_⟩
  refine WQ_call rfl gd0 (o_call Try.call35 (argCons rfl (argCons rfl (argCons rfl argNil))) _) rfl (h.mono ?_)
  rintro _ w51 ⟨x52, rfl, hh53, hh54, h⟩
  refine ⟨⟨⟨⟨⟨trivial, depT (by kernel_rfl)⟩, depT (by kernel_rfl)⟩, fun _ => hh53⟩, fun _ => hh54⟩, ?_⟩
  refine WQ_call rfl gd0 (o_call Try.call35 (argCons rfl (argCons rfl (argCons rfl argNil))) _) rfl (h.mono ?_)
  rintro _ w55 ⟨x56, rfl, hh57, h⟩
  refine ⟨⟨⟨⟨⟨trivial, depT (by kernel_rfl)⟩, depT (by kernel_rfl)⟩, depT (by kernel_rfl)⟩, fun _ => hh57⟩, ?_⟩
  refine WQ_call rfl gd0 (o_call Try.call35 (argCons rfl (argCons rfl (argCons rfl argNil))) _) rfl (h.mono ?_)
  rintro _ w58 ⟨x59, rfl, h⟩
  refine ⟨⟨⟨⟨⟨trivial, depT (by kernel_rfl)⟩, depT (by kernel_rfl)⟩, depT (by kernel_rfl)⟩, depT (by kernel_rfl)⟩, ?_⟩
  refine WQ_nil ?_
  refine nrm ?_
  refine WC_seq ?_
  refine WC_region ?_
  refine WL_val gd0 ((o_move (v := .pointer w35) rfl) _) rfl ?_
  refine WL_call gd0 (o_call Try.call37 (argCons rfl argNil) _) rfl (h.mono ?_)
  rintro _ w60 ⟨t_a61, t_n62, t_c63, rfl, h⟩
  refine WL_val gd0 ((o_assign (v := .slice t_a61 t_n62 t_c63) rfl) _) rfl ?_
  refine WL_nil ?_
  refine nrm ?_
  refine WC_ret ?_
  refine rtE ?_
  exact gv1 rfl rfl h

/-- spacecraft crc.Check16 -/
def F26 (b_a1 : Option Addr) (b_n2 : Nat) (b_c3 : Nat) (w4 : World) (k : Value → World → Prop) : Prop :=
  if 0 ≤ (IntKind.i64.wrap ((b_n2 : Int) - 2)) then
  (0 : Int) ≤ IntKind.i64.wrap ((b_n2 : Int) - 2) ∧ IntKind.i64.wrap ((b_n2 : Int) - 2) ≤ (b_c3 : Int) ∧ ∃ (p10 : Addr), b_a1 = some p10 ∧ (0 : Int) ≤ IntKind.i64.wrap ((b_n2 : Int) - 2) ∧ IntKind.i64.wrap ((b_n2 : Int) - 2) < (b_n2 : Int) ∧ ∃ (x12 : Int), w4.drew.cell? (p10.add ((IntKind.i64.wrap ((b_n2 : Int) - 2)).toNat)) = some (.int .u8 x12) ∧ (0 : Int) ≤ IntKind.i64.wrap ((IntKind.i64.wrap ((b_n2 : Int) - 2)) + 1) ∧ IntKind.i64.wrap ((IntKind.i64.wrap ((b_n2 : Int) - 2)) + 1) < (b_n2 : Int) ∧ ∃ (x16 : Int), w4.drew.cell? (p10.add ((IntKind.i64.wrap ((IntKind.i64.wrap ((b_n2 : Int) - 2)) + 1)).toNat)) = some (.int .u8 x16) ∧ Does Try.prog 33 #[.slice b_a1 ((IntKind.i64.wrap ((b_n2 : Int) - 2)).toNat) b_c3] w4.drew (fun v w18 => ∃ (x19 : Int), v = .int .u16 x19 ∧ w18.cell? (p10.add ((IntKind.i64.wrap ((b_n2 : Int) - 2)).toNat)) = some (.int .u8 x12) ∧ w18.cell? (p10.add ((IntKind.i64.wrap ((IntKind.i64.wrap ((b_n2 : Int) - 2)) + 1)).toNat)) = some (.int .u8 x16) ∧ k (.bool (decide (x19 = (bor .u16 (shl .u16 (IntKind.u16.wrap x12) 8) (IntKind.u16.wrap x16))))) w18)
else
  k (.bool false) w4.drew
set_option maxRecDepth 100000 in
set_option maxHeartbeats 2000000 in
theorem w26 (b_a1 : Option Addr) (b_n2 : Nat) (b_c3 : Nat) (w4 : World) (k : Value → World → Prop) (h : F26 b_a1 b_n2 b_c3 w4 k) : Does Try.prog 26 #[.slice b_a1 b_n2 b_c3] w4 k := by
  refine enter 29 Try.func26 rfl rfl rfl ?_
  intro ρ hρ
  have e0 := hρ 0 _ rfl
  unfold F26 at h
  refine WC_seq ?_
  refine WC_region ?_
  refine WL_val gd0 ((o_assign (v := .bool false) rfl) _) rfl ?_
  refine WL_nil ?_
  refine nrm ?_
  refine WC_seq ?_
  refine WC_region ?_
  refine WL_val gd0 ((o_move (v := .slice b_a1 b_n2 b_c3) (by exact e0)) _) rfl ?_
  refine WL_val gd0 ((o_len Try.underlying22 rfl) _) rfl ?_
  refine WL_val gd0 ((o_sub rfl rfl) _) rfl ?_
  refine WL_val gd0 ((o_assign (v := .int .i64 (IntKind.i64.wrap ((b_n2 : Int) - 2))) rfl) _) rfl ?_
  refine WL_nil ?_
  refine nrm ?_
  refine WC_seq ?_
  refine WC_draws [6] (.look 0 (.look 1 (.look 2 (.look 3 (.look 4 (.look 5 (.look 7 (.look 8 (.look 9 (.look 10 (.look 11 (.look 12 (.look 13 (.look 14 (.look 15 (.look 16 (.look 17 (.look 18 (.look 19 (.act 6 (.look 20 (.look 21 (.look 22 .nil))))))))))))))))))))))) Try.mixed (by kernel_rfl) ?_
  refine WQ_val rfl gd0 (o_move (v := .int .i64 (IntKind.i64.wrap ((b_n2 : Int) - 2))) rfl) rfl ?_
  refine WQ_val rfl gd0 (o_geq rfl rfl) rfl ?_
  refine WQ_val rfl gd0 (o_move (v := .bool (decide (0 ≤ (IntKind.i64.wrap ((b_n2 : Int) - 2))))) rfl) rfl ?_
  refine bsplit (decide (0 ≤ (IntKind.i64.wrap ((b_n2 : Int) - 2)))) (fun hb5 => ?_) (fun hb5 => ?_)
  · rw [if_pos (of_decide_eq_true hb5)] at h
    refine WQ_val rfl (gdY (b := (decide (0 ≤ (IntKind.i64.wrap ((b_n2 : Int) - 2))))) 9 rfl rfl hb5) (o_move (v := .slice b_a1 b_n2 b_c3) (by exact e0)) rfl ?_
    refine WQ_val rfl (gdY (b := (decide (0 ≤ (IntKind.i64.wrap ((b_n2 : Int) - 2))))) 9 rfl rfl hb5) (o_move (v := .int .i64 (IntKind.i64.wrap ((b_n2 : Int) - 2))) rfl) rfl ?_
    obtain ⟨c6, c7, h⟩ := h
    refine WQ_val rfl (gdY (b := (decide (0 ≤ (IntKind.i64.wrap ((b_n2 : Int) - 2))))) 9 rfl rfl hb5) (o_sliceH Try.underlying22 Try.sizeOf5 rfl rfl c6 c7) rfl ?_
    refine WQ_val rfl (gdY (b := (decide (0 ≤ (IntKind.i64.wrap ((b_n2 : Int) - 2))))) 9 rfl rfl hb5) (o_move (v := .slice b_a1 b_n2 b_c3) (by exact e0)) rfl ?_
    refine WQ_val rfl (gdY (b := (decide (0 ≤ (IntKind.i64.wrap ((b_n2 : Int) - 2))))) 9 rfl rfl hb5) (o_move (v := .int .i64 (IntKind.i64.wrap ((b_n2 : Int) - 2))) rfl) rfl ?_
    obtain ⟨p10, q11, h⟩ := h
    obtain ⟨l8, u9, h⟩ := h
    refine WQ_val rfl (gdY (b := (decide (0 ≤ (IntKind.i64.wrap ((b_n2 : Int) - 2))))) 9 rfl rfl hb5) (o_indexAddr1 Try.underlying22 Try.sizeOf5 (by exact (congrArg (fun z => Value.slice z b_n2 b_c3) q11)) rfl l8 u9) rfl ?_
    obtain ⟨x12, hc13, h⟩ := h
    refine WQ_look (fun w => w.cell? (p10.add ((IntKind.i64.wrap ((b_n2 : Int) - 2)).toNat)) = some (.int .u8 x12)) rfl (gdY (b := (decide (0 ≤ (IntKind.i64.wrap ((b_n2 : Int) - 2))))) 9 rfl rfl hb5) (fun w hc => (o_load Try.isAgg5 rfl hc)) hc13 rfl ?_
    refine WQ_val rfl (gdY (b := (decide (0 ≤ (IntKind.i64.wrap ((b_n2 : Int) - 2))))) 9 rfl rfl hb5) (o_conv Try.underlying5 Try.underlying39 rfl) rfl ?_
    refine WQ_val rfl (gdY (b := (decide (0 ≤ (IntKind.i64.wrap ((b_n2 : Int) - 2))))) 9 rfl rfl hb5) (o_shl rfl rfl (by decide)) rfl ?_
    refine WQ_val rfl (gdY (b := (decide (0 ≤ (IntKind.i64.wrap ((b_n2 : Int) - 2))))) 9 rfl rfl hb5) (o_move (v := .slice b_a1 b_n2 b_c3) (by exact e0)) rfl ?_
    refine WQ_val rfl (gdY (b := (decide (0 ≤ (IntKind.i64.wrap ((b_n2 : Int) - 2))))) 9 rfl rfl hb5) (o_move (v := .int .i64 (IntKind.i64.wrap ((b_n2 : Int) - 2))) rfl) rfl ?_
    refine WQ_val rfl (gdY (b := (decide (0 ≤ (IntKind.i64.wrap ((b_n2 : Int) - 2))))) 9 rfl rfl hb5) (o_add rfl rfl) rfl ?_
    obtain ⟨l14, u15, h⟩ := h
    refine WQ_val rfl (gdY (b := (decide (0 ≤ (IntKind.i64.wrap ((b_n2 : Int) - 2))))) 9 rfl rfl hb5) (o_indexAddr1 Try.underlying22 Try.sizeOf5 (by exact (congrArg (fun z => Value.slice z b_n2 b_c3) q11)) rfl l14 u15) rfl ?_
    obtain ⟨x16, hc17, h⟩ := h
    refine WQ_look (fun w => w.cell? (p10.add ((IntKind.i64.wrap ((IntKind.i64.wrap ((b_n2 : Int) - 2)) + 1)).toNat)) = some (.int .u8 x16)) rfl (gdY (b := (decide (0 ≤ (IntKind.i64.wrap ((b_n2 : Int) - 2))))) 9 rfl rfl hb5) (fun w hc => (o_load Try.isAgg5 rfl hc)) hc17 rfl ?_
    refine WQ_val rfl (gdY (b := (decide (0 ≤ (IntKind.i64.wrap ((b_n2 : Int) - 2))))) 9 rfl rfl hb5) (o_conv Try.underlying5 Try.underlying39 rfl) rfl ?_
    refine WQ_val rfl (gdY (b := (decide (0 ≤ (IntKind.i64.wrap ((b_n2 : Int) - 2))))) 9 rfl rfl hb5) (o_or rfl rfl) rfl ?_
    refine WQ_call rfl (gdY (b := (decide (0 ≤ (IntKind.i64.wrap ((b_n2 : Int) - 2))))) 9 rfl rfl hb5) (o_call Try.call33 (argCons rfl argNil) _) rfl (h.mono ?_)
    rintro _ w18 ⟨x19, rfl, hh20, hh21, h⟩
    refine ⟨⟨⟨trivial, fun _ => hh20⟩, fun _ => hh21⟩, ?_⟩
    refine WQ_val rfl (gdY (b := (decide (0 ≤ (IntKind.i64.wrap ((b_n2 : Int) - 2))))) 9 rfl rfl hb5) (o_eql rfl rfl) rfl ?_
    refine WQ_val rfl gd0 (o_pickT (v := .bool (decide (x19 = (bor .u16 (shl .u16 (IntKind.u16.wrap x12) 8) (IntKind.u16.wrap x16))))) rfl hb5 rfl) rfl ?_
    refine WQ_val rfl gd0 (o_assign (v := .bool (decide (x19 = (bor .u16 (shl .u16 (IntKind.u16.wrap x12) 8) (IntKind.u16.wrap x16))))) rfl) rfl ?_
    refine WQ_nil ?_
    refine nrm ?_
    refine WC_ret ?_
    refine rtE ?_
    exact gv1 rfl rfl h
  · rw [if_neg (of_decide_eq_false hb5)] at h
    refine WQ_skip rfl (gdN (b := (decide (0 ≤ (IntKind.i64.wrap ((b_n2 : Int) - 2))))) 9 rfl rfl hb5) rfl ?_
    refine WQ_skip rfl (gdN (b := (decide (0 ≤ (IntKind.i64.wrap ((b_n2 : Int) - 2))))) 9 rfl rfl hb5) rfl ?_
    refine WQ_skip rfl (gdN (b := (decide (0 ≤ (IntKind.i64.wrap ((b_n2 : Int) - 2))))) 9 rfl rfl hb5) rfl ?_
    refine WQ_skip rfl (gdN (b := (decide (0 ≤ (IntKind.i64.wrap ((b_n2 : Int) - 2))))) 9 rfl rfl hb5) rfl ?_
    refine WQ_skip rfl (gdN (b := (decide (0 ≤ (IntKind.i64.wrap ((b_n2 : Int) - 2))))) 9 rfl rfl hb5) rfl ?_
    refine WQ_skip rfl (gdN (b := (decide (0 ≤ (IntKind.i64.wrap ((b_n2 : Int) - 2))))) 9 rfl rfl hb5) rfl ?_
    refine WQ_skip rfl (gdN (b := (decide (0 ≤ (IntKind.i64.wrap ((b_n2 : Int) - 2))))) 9 rfl rfl hb5) rfl ?_
    refine WQ_skip rfl (gdN (b := (decide (0 ≤ (IntKind.i64.wrap ((b_n2 : Int) - 2))))) 9 rfl rfl hb5) rfl ?_
    refine WQ_skip rfl (gdN (b := (decide (0 ≤ (IntKind.i64.wrap ((b_n2 : Int) - 2))))) 9 rfl rfl hb5) rfl ?_
    refine WQ_skip rfl (gdN (b := (decide (0 ≤ (IntKind.i64.wrap ((b_n2 : Int) - 2))))) 9 rfl rfl hb5) rfl ?_
    refine WQ_skip rfl (gdN (b := (decide (0 ≤ (IntKind.i64.wrap ((b_n2 : Int) - 2))))) 9 rfl rfl hb5) rfl ?_
    refine WQ_skip rfl (gdN (b := (decide (0 ≤ (IntKind.i64.wrap ((b_n2 : Int) - 2))))) 9 rfl rfl hb5) rfl ?_
    refine WQ_skip rfl (gdN (b := (decide (0 ≤ (IntKind.i64.wrap ((b_n2 : Int) - 2))))) 9 rfl rfl hb5) rfl ?_
    refine WQ_skip rfl (gdN (b := (decide (0 ≤ (IntKind.i64.wrap ((b_n2 : Int) - 2))))) 9 rfl rfl hb5) rfl ?_
    refine WQ_skip rfl (gdN (b := (decide (0 ≤ (IntKind.i64.wrap ((b_n2 : Int) - 2))))) 9 rfl rfl hb5) rfl ?_
    refine WQ_skip rfl (gdN (b := (decide (0 ≤ (IntKind.i64.wrap ((b_n2 : Int) - 2))))) 9 rfl rfl hb5) rfl ?_
    refine WQ_passAct rfl (gdN (b := (decide (0 ≤ (IntKind.i64.wrap ((b_n2 : Int) - 2))))) 9 rfl rfl hb5) rfl (by exact trivial) ?_
    refine WQ_skip rfl (gdN (b := (decide (0 ≤ (IntKind.i64.wrap ((b_n2 : Int) - 2))))) 9 rfl rfl hb5) rfl ?_
    refine WQ_val rfl gd0 (o_pickF (v := .bool false) rfl hb5 rfl) rfl ?_
    refine WQ_val rfl gd0 (o_assign (v := .bool false) rfl) rfl ?_
    refine WQ_nil ?_
    refine nrm ?_
    refine WC_ret ?_
    refine rtE ?_
    exact gv1 rfl rfl h

/-- spacecraft bits.NewReader -/
def F27 (b_a1 : Option Addr) (b_n2 : Nat) (b_c3 : Nat) (w4 : World) (k : Value → World → Prop) : Prop :=
  New w4 5 [] (fun p5 w6 => ∃ (b_a7 : Option Addr) (b_n8 b_c9 : Nat) (w10 : World), (Builtin.append_ #[22, 22] 22 #[.slice (some p5) 0 0, .slice b_a1 b_n2 b_c3]).run Try.prog w6 = .ok (.slice b_a7 b_n8 b_c9) w10 ∧ New w10 57 [.bool true, .slice b_a7 b_n8 b_c9, .int .i64 0, .bool false] (fun p12 w13 => k (.pointer (some p12)) w13))
set_option maxRecDepth 100000 in
set_option maxHeartbeats 2000000 in
theorem w27 (b_a1 : Option Addr) (b_n2 : Nat) (b_c3 : Nat) (w4 : World) (k : Value → World → Prop) (h : F27 b_a1 b_n2 b_c3 w4 k) : Does Try.prog 27 #[.slice b_a1 b_n2 b_c3] w4 k := by
  refine enter 8 Try.func27 rfl rfl rfl ?_
  intro ρ hρ
  have e0 := hρ 0 _ rfl
  unfold F27 at h
  refine WC_seq ?_
  refine WC_region ?_
  refine WL_val gd0 ((o_assign (v := .pointer none) rfl) _) rfl ?_
  refine WL_nil ?_
  refine nrm ?_
  refine WC_seq ?_
  refine WC_region ?_
  have h := New.out h
  refine WL_val gd0 (o_buildSlice (e := 5) (ps := []) (cs := []) partNil (fun w => by kernel_rfl)) rfl ?_
  generalize hp5 : fresh w4 = p5 at h ⊢
  generalize hw6 : push w4 5 [] = w6 at h ⊢
  try dsimp only at h
  refine WL_val gd0 ((o_move (v := .slice b_a1 b_n2 b_c3) (by exact e0)) _) rfl ?_
  obtain ⟨b_a7, b_n8, b_c9, w10, r11, h⟩ := h
  refine WL_val gd0 (o_append rfl rfl r11) rfl ?_
  refine WL_val gd0 ((o_build (ps := [(0, .bool true), (1, .slice b_a7 b_n8 b_c9)]) (v := .agg #[.bool true, .slice b_a7 b_n8 b_c9, .int .i64 0, .bool false]) (partCons rfl (partCons rfl partNil)) (fun w => by kernel_rfl)) _) rfl ?_
  have h := New.out h
  refine WL_val gd0 (o_box (v := .agg #[.bool true, .slice b_a7 b_n8 b_c9, .int .i64 0, .bool false]) (cs := [.bool true, .slice b_a7 b_n8 b_c9, .int .i64 0, .bool false]) rfl rfl) rfl ?_
  generalize hp12 : fresh w10 = p12 at h ⊢
  generalize hw13 : push w10 57 [.bool true, .slice b_a7 b_n8 b_c9, .int .i64 0, .bool false] = w13 at h ⊢
  try dsimp only at h
  refine WL_val gd0 ((o_assign (v := .pointer (some p12)) rfl) _) rfl ?_
  refine WL_nil ?_
  refine nrm ?_
  refine WC_ret ?_
  refine rtE ?_
  exact gv1 rfl rfl h

def F28_b2 (width2 : Int) (r1 : Option Addr) (n19 : Int) (t22 : Int) (w23 : World) (nx23 : Int → Int → World → Prop) (k : Value → World → Prop) : Prop :=
  if t22 < width2 then
  ∃ (p26 : Addr), r1 = some p26 ∧ ∃ (x_a28 : Option Addr) (x_n29 x_c30 : Nat), w23.drew.cell? (p26.add 1) = some (.slice x_a28 x_n29 x_c30) ∧ ∃ (x32 : Int), w23.drew.cell? (p26.add 2) = some (.int .i64 x32) ∧ ∃ (p36 : Addr), x_a28 = some p36 ∧ (0 : Int) ≤ IntKind.i64.wrap (Int.tdiv x32 8) ∧ IntKind.i64.wrap (Int.tdiv x32 8) < (x_n29 : Int) ∧ ∃ (x38 : Int), w23.drew.cell? (p36.add ((IntKind.i64.wrap (Int.tdiv x32 8)).toNat)) = some (.int .u8 x38) ∧ ∃ (x40 : Int), w23.drew.cell? (p26.add 2) = some (.int .i64 x40) ∧ (0 : Int) ≤ IntKind.i64.wrap (7 - (Int.tmod x40 8)) ∧ ∃ (x43 : Int), w23.drew.cell? (p26.add 2) = some (.int .i64 x43) ∧ Put w23.drew (p26.add 2) (.int .i64 (IntKind.i64.wrap (x43 + 1))) (fun w45 => nx23 (bor .u64 (shl .u64 n19 1) (IntKind.u64.wrap (band .u8 (shr .u8 x38 (IntKind.i64.wrap (7 - (Int.tmod x40 8)))) 1))) (IntKind.i64.wrap (t22 + 1)) w45)
else
  k (.int .u64 n19) w23
def F28_j1 (r1 : Option Addr) (width2 : Int) (t10 : Bool) (w11 : World) (k : Value → World → Prop) : Prop :=
  if t10 = true then
  ∃ (p13 : Addr), r1 = some p13 ∧ Put w11 (p13.add 3) (.bool true) (fun w15 => k (.int .u64 0) w15)
else
  LoopP (fun (s : Int × Int) w' nx' => F28_b2 width2 r1 (s.1) (s.2) w' (fun x0 x1 w => nx' (x0, x1) w) k) (0, 0) w11
/-- (*spacecraft bits.Reader).Get -/
def F28 (r1 : Option Addr) (width2 : Int) (w3 : World) (k : Value → World → Prop) : Prop :=
  Does Try.prog 38 #[.pointer r1] w3 (fun v w4 => ∃ (x5 : Bool), v = .bool x5 ∧ if (!x5) = true then
  k (.int .u64 0) w4
else
  if width2 < 0 then
    F28_j1 r1 width2 true w4 k
  else
    if 64 < width2 then
      F28_j1 r1 width2 true w4 k
    else
      Does Try.prog 39 #[.pointer r1] w4 (fun v w49 => ∃ (x50 : Int), v = .int .i64 x50 ∧ F28_j1 r1 width2 (decide (x50 < width2)) w49 k))
set_option maxRecDepth 100000 in
set_option maxHeartbeats 2000000 in
theorem w28 (r1 : Option Addr) (width2 : Int) (w3 : World) (k : Value → World → Prop) (h : F28 r1 width2 w3 k) : Does Try.prog 28 #[.pointer r1, .int .i64 width2] w3 k := by
  refine enter 59 Try.func28 rfl rfl rfl ?_
  intro ρ hρ
  have e0 := hρ 0 _ rfl
  have e1 := hρ 1 _ rfl
  unfold F28 at h
  refine WC_seq ?_
  refine WC_region ?_
  refine WL_val gd0 ((o_assign (v := .int .u64 0) rfl) _) rfl ?_
  refine WL_nil ?_
  refine nrm ?_
  refine WC_seq ?_
  refine WC_seq ?_
  refine WC_region ?_
  refine WL_val gd0 ((o_move (v := .pointer r1) (by exact e0)) _) rfl ?_
  refine WL_call gd0 (o_call Try.call38 (argCons rfl argNil) _) rfl (h.mono ?_)
  rintro _ w4 ⟨x5, rfl, h⟩
  refine WL_val gd0 ((o_not rfl) _) rfl ?_
  refine WL_nil ?_
  refine nrm ?_
  refine WC_cond (t := (!x5)) rfl (fun hb6 => ?_) (fun hb6 => ?_)
  · rw [if_pos hb6] at h
    refine WC_seq ?_
    refine WC_region ?_
    refine WL_val gd0 ((o_assign (v := .int .u64 0) rfl) _) rfl ?_
    refine WL_nil ?_
    refine nrm ?_
    refine WC_ret ?_
    refine rtT ?_
    refine rtE ?_
    exact gv1 rfl rfl h
  · rw [if_neg (neT hb6)] at h
    refine WC_skip ?_
    refine nrm ?_
    refine WC_seq ?_
    refine WC_cut (fun ρ w' => ∃ (t10 : Bool), ρ 20 = .bool t10 ∧ ρ 0 = .pointer r1 ∧ ρ 1 = .int .i64 width2 ∧ F28_j1 r1 width2 t10 w' k) ?_ ?_
    · refine WC_region ?_
      refine WL_val gd0 ((o_move (v := .int .i64 width2) (by exact e1)) _) rfl ?_
      refine WL_val gd0 ((o_lss rfl rfl) _) rfl ?_
      refine WL_val gd0 ((o_move (v := .bool (decide (width2 < 0))) rfl) _) rfl ?_
      refine bsplit (decide (width2 < 0)) (fun hb47 => ?_) (fun hb47 => ?_)
      · rw [if_pos (of_decide_eq_true hb47)] at h
        refine WL_skip (gdN (b := (decide (width2 < 0))) 11 rfl rfl hb47) rfl ?_
        refine WL_skip (gdN (b := (decide (width2 < 0))) 11 rfl rfl hb47) rfl ?_
        refine WL_val gd0 ((o_pickT (v := .bool true) rfl hb47 rfl) _) rfl ?_
        refine WL_val gd0 ((o_move (v := .bool true) rfl) _) rfl ?_
        refine WL_skip (gdN (b := true) 15 rfl rfl rfl) rfl ?_
        refine WL_skip (gdN (b := true) 15 rfl rfl rfl) rfl ?_
        refine WL_skip (gdN (b := true) 15 rfl rfl rfl) rfl ?_
        refine WL_skip (gdN (b := true) 15 rfl rfl rfl) rfl ?_
        refine WL_val gd0 ((o_pickT (v := .bool true) rfl rfl rfl) _) rfl ?_
        refine WL_nil ?_
        refine nrm ?_
        exact ⟨_, rfl, e0, e1, h⟩
      · rw [if_neg (of_decide_eq_false hb47)] at h
        refine WL_val (gdY (b := (decide (width2 < 0))) 11 rfl rfl hb47) ((o_move (v := .int .i64 width2) (by exact e1)) _) rfl ?_
        refine WL_val (gdY (b := (decide (width2 < 0))) 11 rfl rfl hb47) ((o_gtr rfl rfl) _) rfl ?_
        refine WL_val gd0 ((o_pickF (v := .bool (decide (64 < width2))) rfl hb47 rfl) _) rfl ?_
        refine WL_val gd0 ((o_move (v := .bool (decide (64 < width2))) rfl) _) rfl ?_
        refine bsplit (decide (64 < width2)) (fun hb48 => ?_) (fun hb48 => ?_)
        · rw [if_pos (of_decide_eq_true hb48)] at h
          refine WL_skip (gdN (b := (decide (64 < width2))) 15 rfl rfl hb48) rfl ?_
          refine WL_skip (gdN (b := (decide (64 < width2))) 15 rfl rfl hb48) rfl ?_
          refine WL_skip (gdN (b := (decide (64 < width2))) 15 rfl rfl hb48) rfl ?_
          refine WL_skip (gdN (b := (decide (64 < width2))) 15 rfl rfl hb48) rfl ?_
          refine WL_val gd0 ((o_pickT (v := .bool true) rfl hb48 rfl) _) rfl ?_
          refine WL_nil ?_
          refine nrm ?_
          exact ⟨_, rfl, e0, e1, h⟩
        · rw [if_neg (of_decide_eq_false hb48)] at h
          refine WL_val (gdY (b := (decide (64 < width2))) 15 rfl rfl hb48) ((o_move (v := .int .i64 width2) (by exact e1)) _) rfl ?_
          refine WL_val (gdY (b := (decide (64 < width2))) 15 rfl rfl hb48) ((o_move (v := .pointer r1) (by exact e0)) _) rfl ?_
          refine WL_call (gdY (b := (decide (64 < width2))) 15 rfl rfl hb48) (o_call Try.call39 (argCons rfl argNil) _) rfl (h.mono ?_)
          rintro _ w49 ⟨x50, rfl, h⟩
          refine WL_val (gdY (b := (decide (64 < width2))) 15 rfl rfl hb48) ((o_gtr rfl rfl) _) rfl ?_
          refine WL_val gd0 ((o_pickF (v := .bool (decide (x50 < width2))) rfl hb48 rfl) _) rfl ?_
          refine WL_nil ?_
          refine nrm ?_
          exact ⟨_, rfl, e0, e1, h⟩
    · rintro ρ w11 ⟨t10, e20_9, e0_7, e1_8, h⟩
      unfold F28_j1 at h
      refine WC_cond (t := t10) (by exact e20_9) (fun hb12 => ?_) (fun hb12 => ?_)
      · rw [if_pos hb12] at h
        refine WC_seq ?_
        refine WC_region ?_
        refine WL_val gd0 ((o_move (v := .pointer r1) (by exact e0_7)) _) rfl ?_
        obtain ⟨p13, q14, h⟩ := h
        refine WL_val gd0 ((o_nilCheck (by exact (congrArg Value.pointer q14))) _) rfl ?_
        refine WL_val gd0 ((o_fieldAddr 3 Try.underlying57 rfl Try.sizeOf4 rfl rfl rfl) _) rfl ?_
        obtain ⟨c16, h⟩ := h
        refine WL_act gd0 (o_store (v := .bool true) Try.sizeOf4 rfl rfl rfl c16) ?_
        generalize hw15 : World.setCell w11 (p13.add 3) (.bool true) = w15 at h ⊢
        try dsimp only at h
        refine WL_nil ?_
        refine nrm ?_
        refine WC_seq ?_
        refine WC_region ?_
        refine WL_val gd0 ((o_assign (v := .int .u64 0) rfl) _) rfl ?_
        refine WL_nil ?_
        refine nrm ?_
        refine WC_ret ?_
        refine rtT ?_
        refine rtE ?_
        exact gv1 rfl rfl h
      · rw [if_neg (neT hb12)] at h
        refine WC_skip ?_
        refine nrm ?_
        refine WC_seq ?_
        refine WC_region ?_
        refine WL_val gd0 ((o_assign (v := .int .u64 0) rfl) _) rfl ?_
        refine WL_nil ?_
        refine nrm ?_
        refine WC_seq ?_
        refine WC_seq ?_
        refine WC_region ?_
        refine WL_val gd0 ((o_move (v := .int .i64 width2) (by exact e1_8)) _) rfl ?_
        refine WL_val gd0 ((o_move (v := .int .i64 0) rfl) _) rfl ?_
        refine WL_nil ?_
        refine nrm ?_
        refine WC_block ?_
        obtain ⟨J23, ⟨n23, h0⟩, hr23⟩ := h
        refine WC_loop (fun n ρ w' => ∃ (n19 t22 : Int), ρ 5 = .int .u64 n19 ∧ ρ 25 = .int .i64 t22 ∧ ρ 0 = .pointer r1 ∧ ρ 24 = .int .i64 width2 ∧ J23 n (n19, t22) w') ⟨n23, _, _, rfl, rfl, e0_7, rfl, h0⟩ ?_
        rintro n23 ρ w23 ⟨n19, t22, e5_18, e25_21, e0_17, e24_20, h⟩
        have h : F28_b2 width2 r1 n19 t22 w23 (fun x0 x1 w => ∃ m, m < n23 ∧ J23 m (x0, x1) w) k := hr23 n23 (n19, t22) w23 h
        unfold F28_b2 at h
        refine WC_seq ?_
        refine WC_region ?_
        refine WL_val gd0 ((o_lss (by exact e25_21) (by exact e24_20)) _) rfl ?_
        refine WL_nil ?_
        refine nrm ?_
        refine WC_seq ?_
        refine WC_cond (t := (decide (t22 < width2))) rfl (fun hb25 => ?_) (fun hb25 => ?_)
        · rw [if_pos (of_decide_eq_true hb25)] at h
          refine WC_skip ?_
          refine nrm ?_
          refine WC_seq ?_
          refine WC_block ?_
          refine WC_seq ?_
          refine WC_draws [] (.look 0 (.look 1 (.look 2 (.look 3 (.look 4 (.look 5 (.look 6 (.look 7 (.look 8 (.look 9 (.look 10 (.look 11 (.look 12 (.look 13 (.look 14 (.look 15 (.look 16 (.look 17 (.look 18 (.look 19 (.look 20 (.look 21 (.look 22 (.look 23 .nil)))))))))))))))))))))))) Try.mixed (by kernel_rfl) ?_
          refine WQ_val rfl gd0 (o_move (v := .int .u64 n19) (by exact e5_18)) rfl ?_
          refine WQ_val rfl gd0 (o_shl rfl rfl (by decide)) rfl ?_
          refine WQ_val rfl gd0 (o_move (v := .pointer r1) (by exact e0_17)) rfl ?_
          obtain ⟨p26, q27, h⟩ := h
          refine WQ_val rfl gd0 (o_nilCheck (by exact (congrArg Value.pointer q27))) rfl ?_
          refine WQ_val rfl gd0 (o_fieldAddr 1 Try.underlying57 rfl Try.sizeOf22 rfl rfl rfl) rfl ?_
          obtain ⟨x_a28, x_n29, x_c30, hc31, h⟩ := h
          refine WQ_look (fun w => w.cell? (p26.add 1) = some (.slice x_a28 x_n29 x_c30)) rfl gd0 (fun w hc => (o_load Try.isAgg22 rfl hc)) hc31 rfl ?_
          refine WQ_val rfl gd0 (o_move (v := .pointer r1) (by exact e0_17)) rfl ?_
          refine WQ_val rfl gd0 (o_nilCheck (by exact (congrArg Value.pointer q27))) rfl ?_
          refine WQ_val rfl gd0 (o_fieldAddr 2 Try.underlying57 rfl Try.sizeOf3 rfl rfl rfl) rfl ?_
          obtain ⟨x32, hc33, h⟩ := h
          refine WQ_look (fun w => w.cell? (p26.add 2) = some (.int .i64 x32)) rfl gd0 (fun w hc => (o_load Try.isAgg3 rfl hc)) hc33 rfl ?_
          refine WQ_val rfl gd0 (fun w => o_quo rfl rfl w (by decide)) rfl ?_
          obtain ⟨p36, q37, h⟩ := h
          obtain ⟨l34, u35, h⟩ := h
          refine WQ_val rfl gd0 (o_indexAddr1 Try.underlying22 Try.sizeOf5 (by exact (congrArg (fun z => Value.slice z x_n29 x_c30) q37)) rfl l34 u35) rfl ?_
          obtain ⟨x38, hc39, h⟩ := h
          refine WQ_look (fun w => w.cell? (p36.add ((IntKind.i64.wrap (Int.tdiv x32 8)).toNat)) = some (.int .u8 x38)) rfl gd0 (fun w hc => (o_load Try.isAgg5 rfl hc)) hc39 rfl ?_
          refine WQ_val rfl gd0 (o_move (v := .pointer r1) (by exact e0_17)) rfl ?_
          refine WQ_val rfl gd0 (o_nilCheck (by exact (congrArg Value.pointer q27))) rfl ?_
          refine WQ_val rfl gd0 (o_fieldAddr 2 Try.underlying57 rfl Try.sizeOf3 rfl rfl rfl) rfl ?_
          obtain ⟨x40, hc41, h⟩ := h
          refine WQ_look (fun w => w.cell? (p26.add 2) = some (.int .i64 x40)) rfl gd0 (fun w hc => (o_load Try.isAgg3 rfl hc)) hc41 rfl ?_
          refine WQ_val rfl gd0 (fun w => o_rem rfl rfl w (by decide)) rfl ?_
          refine WQ_val rfl gd0 (o_sub rfl rfl) rfl ?_
          obtain ⟨c42, h⟩ := h
          refine WQ_val rfl gd0 (o_shr rfl rfl c42) rfl ?_
          refine WQ_val rfl gd0 (o_and rfl rfl) rfl ?_
          refine WQ_val rfl gd0 (o_conv Try.underlying5 Try.underlying46 rfl) rfl ?_
          refine WQ_val rfl gd0 (o_or rfl rfl) rfl ?_
          refine WQ_val rfl gd0 (o_assign (v := .int .u64 (bor .u64 (shl .u64 n19 1) (IntKind.u64.wrap (band .u8 (shr .u8 x38 (IntKind.i64.wrap (7 - (Int.tmod x40 8)))) 1)))) rfl) rfl ?_
          refine WQ_nil ?_
          refine nrm ?_
          refine WC_region ?_
          refine WL_val gd0 ((o_move (v := .pointer r1) (by exact e0_17)) _) rfl ?_
          refine WL_val gd0 ((o_nilCheck (by exact (congrArg Value.pointer q27))) _) rfl ?_
          refine WL_val gd0 ((o_fieldAddr 2 Try.underlying57 rfl Try.sizeOf3 rfl rfl rfl) _) rfl ?_
          obtain ⟨x43, hc44, h⟩ := h
          refine WL_val gd0 (o_load Try.isAgg3 rfl hc44) rfl ?_
          refine WL_val gd0 ((o_add rfl rfl) _) rfl ?_
          refine WL_val gd0 ((o_nilCheck (by exact (congrArg Value.pointer q27))) _) rfl ?_
          refine WL_val gd0 ((o_fieldAddr 2 Try.underlying57 rfl Try.sizeOf3 rfl rfl rfl) _) rfl ?_
          obtain ⟨c46, h⟩ := h
          refine WL_act gd0 (o_store (v := .int .i64 (IntKind.i64.wrap (x43 + 1))) Try.sizeOf3 rfl rfl rfl c46) ?_
          generalize hw45 : World.setCell w23.drew (p26.add 2) (.int .i64 (IntKind.i64.wrap (x43 + 1))) = w45 at h ⊢
          try dsimp only at h
          refine WL_nil ?_
          refine nrmB ?_
          refine nrm ?_
          refine WC_region ?_
          refine WL_val gd0 ((o_add (by exact e25_21) rfl) _) rfl ?_
          refine WL_val gd0 ((o_move (v := .int .i64 (IntKind.i64.wrap (t22 + 1))) rfl) _) rfl ?_
          refine WL_nil ?_
          refine nrm ?_
          obtain ⟨m24, hm24, h⟩ := h
          exact ⟨m24, hm24, _, _, rfl, rfl, e0_17, e24_20, h⟩
        · rw [if_neg (of_decide_eq_false hb25)] at h
          refine WC_exit ?_
          refine exT ?_
          refine exT ?_
          refine exB ?_
          refine nrm ?_
          refine WC_seq ?_
          refine WC_region ?_
          refine WL_val gd0 ((o_move (v := .int .u64 n19) (by exact e5_18)) _) rfl ?_
          refine WL_val gd0 ((o_assign (v := .int .u64 n19) rfl) _) rfl ?_
          refine WL_nil ?_
          refine nrm ?_
          refine WC_ret ?_
          refine rtE ?_
          exact gv1 rfl rfl h

/-- slices.Clone   byte,byte  -/
def F29 (s_a1 : Option Addr) (s_n2 : Nat) (s_c3 : Nat) (w4 : World) (k : Value → World → Prop) : Prop :=
  if (s_a1).isNone = true then
  k (.slice none 0 0) w4
else
  New w4 5 [] (fun p6 w7 => ∃ (b_a8 : Option Addr) (b_n9 b_c10 : Nat) (w11 : World), (Builtin.append_ #[22, 22] 22 #[.slice (some p6) 0 0, .slice s_a1 s_n2 s_c3]).run Try.prog w7 = .ok (.slice b_a8 b_n9 b_c10) w11 ∧ k (.slice b_a8 b_n9 b_c10) w11)
set_option maxRecDepth 100000 in
set_option maxHeartbeats 2000000 in
theorem w29 (s_a1 : Option Addr) (s_n2 : Nat) (s_c3 : Nat) (w4 : World) (k : Value → World → Prop) (h : F29 s_a1 s_n2 s_c3 w4 k) : Does Try.prog 29 #[.slice s_a1 s_n2 s_c3] w4 k := by
  refine enter 8 Try.func29 rfl rfl rfl ?_
  intro ρ hρ
  have e0 := hρ 0 _ rfl
  unfold F29 at h
  refine WC_seq ?_
  refine WC_region ?_
  refine WL_val gd0 ((o_assign (v := .slice none 0 0) rfl) _) rfl ?_
  refine WL_nil ?_
  refine nrm ?_
  refine WC_seq ?_
  refine WC_seq ?_
  refine WC_region ?_
  refine WL_val gd0 ((o_move (v := .slice s_a1 s_n2 s_c3) (by exact e0)) _) rfl ?_
  refine WL_val gd0 ((o_eqlSliceNil Try.underlying22 rfl rfl) _) rfl ?_
  refine WL_nil ?_
  refine nrm ?_
  refine WC_cond (t := ((s_a1).isNone)) rfl (fun hb5 => ?_) (fun hb5 => ?_)
  · rw [if_pos hb5] at h
    refine WC_seq ?_
    refine WC_region ?_
    refine WL_val gd0 ((o_assign (v := .slice none 0 0) rfl) _) rfl ?_
    refine WL_nil ?_
    refine nrm ?_
    refine WC_ret ?_
    refine rtT ?_
    refine rtE ?_
    exact gv1 rfl rfl h
  · rw [if_neg (neT hb5)] at h
    refine WC_skip ?_
    refine nrm ?_
    refine WC_seq ?_
    refine WC_region ?_
    have h := New.out h
    refine WL_val gd0 (o_buildSlice (e := 5) (ps := []) (cs := []) partNil (fun w => by kernel_rfl)) rfl ?_
    generalize hp6 : fresh w4 = p6 at h ⊢
    generalize hw7 : push w4 5 [] = w7 at h ⊢
    try dsimp only at h
    refine WL_val gd0 ((o_move (v := .slice s_a1 s_n2 s_c3) (by exact e0)) _) rfl ?_
    obtain ⟨b_a8, b_n9, b_c10, w11, r12, h⟩ := h
    refine WL_val gd0 (o_append rfl rfl r12) rfl ?_
    refine WL_val gd0 ((o_assign (v := .slice b_a8 b_n9 b_c10) rfl) _) rfl ?_
    refine WL_nil ?_
    refine nrm ?_
    refine WC_ret ?_
    refine rtE ?_
    exact gv1 rfl rfl h

/-- spacecraft spacecraftref01.Check16 -/
def F30 (b_a1 : Option Addr) (b_n2 : Nat) (b_c3 : Nat) (w4 : World) (k : Value → World → Prop) : Prop :=
  if 0 ≤ (IntKind.i64.wrap ((b_n2 : Int) - 2)) then
  (0 : Int) ≤ IntKind.i64.wrap ((b_n2 : Int) - 2) ∧ IntKind.i64.wrap ((b_n2 : Int) - 2) ≤ (b_c3 : Int) ∧ ∃ (s8 : ByteArray), (Conv.bytesToString (.slice b_a1 b_n2 b_c3)).run Try.prog w4.drew = .ok (.string s8) w4.drew ∧ Does Try.prog 23 #[.slice b_a1 ((IntKind.i64.wrap ((b_n2 : Int) - 2)).toNat) b_c3] w4.drew (fun v w10 => ∃ (x_a11 : Option Addr) (x_n12 x_c13 : Nat), v = .slice x_a11 x_n12 x_c13 ∧ (Conv.bytesToString (.slice b_a1 b_n2 b_c3)).run Try.prog w10 = .ok (.string s8) w10 ∧ ∃ (s15 : ByteArray), (Conv.bytesToString (.slice x_a11 x_n12 x_c13)).run Try.prog w10 = .ok (.string s15) w10 ∧ k (.bool (s15.toList == s8.toList)) w10)
else
  k (.bool false) w4.drew
set_option maxRecDepth 100000 in
set_option maxHeartbeats 2000000 in
theorem w30 (b_a1 : Option Addr) (b_n2 : Nat) (b_c3 : Nat) (w4 : World) (k : Value → World → Prop) (h : F30 b_a1 b_n2 b_c3 w4 k) : Does Try.prog 30 #[.slice b_a1 b_n2 b_c3] w4 k := by
  refine enter 19 Try.func30 rfl rfl rfl ?_
  intro ρ hρ
  have e0 := hρ 0 _ rfl
  unfold F30 at h
  refine WC_seq ?_
  refine WC_region ?_
  refine WL_val gd0 ((o_assign (v := .bool false) rfl) _) rfl ?_
  refine WL_nil ?_
  refine nrm ?_
  refine WC_seq ?_
  refine WC_region ?_
  refine WL_val gd0 ((o_move (v := .slice b_a1 b_n2 b_c3) (by exact e0)) _) rfl ?_
  refine WL_val gd0 ((o_len Try.underlying22 rfl) _) rfl ?_
  refine WL_val gd0 ((o_sub rfl rfl) _) rfl ?_
  refine WL_val gd0 ((o_assign (v := .int .i64 (IntKind.i64.wrap ((b_n2 : Int) - 2))) rfl) _) rfl ?_
  refine WL_nil ?_
  refine nrm ?_
  refine WC_seq ?_
  refine WC_draws [6] (.look 0 (.look 1 (.look 2 (.look 3 (.look 4 (.look 5 (.look 8 (.look 9 (.act 6 (.look 7 (.look 10 (.look 11 (.look 12 .nil))))))))))))) Try.mixed (by kernel_rfl) ?_
  refine WQ_val rfl gd0 (o_move (v := .int .i64 (IntKind.i64.wrap ((b_n2 : Int) - 2))) rfl) rfl ?_
  refine WQ_val rfl gd0 (o_geq rfl rfl) rfl ?_
  refine WQ_val rfl gd0 (o_move (v := .bool (decide (0 ≤ (IntKind.i64.wrap ((b_n2 : Int) - 2))))) rfl) rfl ?_
  refine bsplit (decide (0 ≤ (IntKind.i64.wrap ((b_n2 : Int) - 2)))) (fun hb5 => ?_) (fun hb5 => ?_)
  · rw [if_pos (of_decide_eq_true hb5)] at h
    refine WQ_val rfl (gdY (b := (decide (0 ≤ (IntKind.i64.wrap ((b_n2 : Int) - 2))))) 9 rfl rfl hb5) (o_move (v := .slice b_a1 b_n2 b_c3) (by exact e0)) rfl ?_
    refine WQ_val rfl (gdY (b := (decide (0 ≤ (IntKind.i64.wrap ((b_n2 : Int) - 2))))) 9 rfl rfl hb5) (o_move (v := .int .i64 (IntKind.i64.wrap ((b_n2 : Int) - 2))) rfl) rfl ?_
    obtain ⟨c6, c7, h⟩ := h
    refine WQ_val rfl (gdY (b := (decide (0 ≤ (IntKind.i64.wrap ((b_n2 : Int) - 2))))) 9 rfl rfl hb5) (o_sliceH Try.underlying22 Try.sizeOf5 rfl rfl c6 c7) rfl ?_
    refine WQ_val rfl (gdY (b := (decide (0 ≤ (IntKind.i64.wrap ((b_n2 : Int) - 2))))) 9 rfl rfl hb5) (o_move (v := .slice b_a1 b_n2 b_c3) (by exact e0)) rfl ?_
    obtain ⟨s8, r9, h⟩ := h
    refine WQ_look (fun w => (Conv.bytesToString (.slice b_a1 b_n2 b_c3)).run Try.prog w = .ok (.string s8) w) rfl (gdY (b := (decide (0 ≤ (IntKind.i64.wrap ((b_n2 : Int) - 2))))) 9 rfl rfl hb5) (fun w hc => (o_toStr Try.underlying22 Try.underlying5 Try.underlying9 rfl hc)) r9 rfl ?_
    refine WQ_call rfl (gdY (b := (decide (0 ≤ (IntKind.i64.wrap ((b_n2 : Int) - 2))))) 9 rfl rfl hb5) (o_call Try.call23 (argCons rfl argNil) _) rfl (h.mono ?_)
    rintro _ w10 ⟨x_a11, x_n12, x_c13, rfl, hh14, h⟩
    refine ⟨⟨trivial, fun _ => hh14⟩, ?_⟩
    obtain ⟨s15, r16, h⟩ := h
    refine WQ_look (fun w => (Conv.bytesToString (.slice x_a11 x_n12 x_c13)).run Try.prog w = .ok (.string s15) w) rfl (gdY (b := (decide (0 ≤ (IntKind.i64.wrap ((b_n2 : Int) - 2))))) 9 rfl rfl hb5) (fun w hc => (o_toStr Try.underlying22 Try.underlying5 Try.underlying9 rfl hc)) r16 rfl ?_
    refine WQ_val rfl (gdY (b := (decide (0 ≤ (IntKind.i64.wrap ((b_n2 : Int) - 2))))) 9 rfl rfl hb5) (o_eqlStr rfl rfl) rfl ?_
    refine WQ_val rfl gd0 (o_pickT (v := .bool (s15.toList == s8.toList)) rfl hb5 rfl) rfl ?_
    refine WQ_val rfl gd0 (o_assign (v := .bool (s15.toList == s8.toList)) rfl) rfl ?_
    refine WQ_nil ?_
    refine nrm ?_
    refine WC_ret ?_
    refine rtE ?_
    exact gv1 rfl rfl h
  · rw [if_neg (of_decide_eq_false hb5)] at h
    refine WQ_skip rfl (gdN (b := (decide (0 ≤ (IntKind.i64.wrap ((b_n2 : Int) - 2))))) 9 rfl rfl hb5) rfl ?_
    refine WQ_skip rfl (gdN (b := (decide (0 ≤ (IntKind.i64.wrap ((b_n2 : Int) - 2))))) 9 rfl rfl hb5) rfl ?_
    refine WQ_skip rfl (gdN (b := (decide (0 ≤ (IntKind.i64.wrap ((b_n2 : Int) - 2))))) 9 rfl rfl hb5) rfl ?_
    refine WQ_skip rfl (gdN (b := (decide (0 ≤ (IntKind.i64.wrap ((b_n2 : Int) - 2))))) 9 rfl rfl hb5) rfl ?_
    refine WQ_skip rfl (gdN (b := (decide (0 ≤ (IntKind.i64.wrap ((b_n2 : Int) - 2))))) 9 rfl rfl hb5) rfl ?_
    refine WQ_passAct rfl (gdN (b := (decide (0 ≤ (IntKind.i64.wrap ((b_n2 : Int) - 2))))) 9 rfl rfl hb5) rfl (by exact trivial) ?_
    refine WQ_skip rfl (gdN (b := (decide (0 ≤ (IntKind.i64.wrap ((b_n2 : Int) - 2))))) 9 rfl rfl hb5) rfl ?_
    refine WQ_skip rfl (gdN (b := (decide (0 ≤ (IntKind.i64.wrap ((b_n2 : Int) - 2))))) 9 rfl rfl hb5) rfl ?_
    refine WQ_val rfl gd0 (o_pickF (v := .bool false) rfl hb5 rfl) rfl ?_
    refine WQ_val rfl gd0 (o_assign (v := .bool false) rfl) rfl ?_
    refine WQ_nil ?_
    refine nrm ?_
    refine WC_ret ?_
    refine rtE ?_
    exact gv1 rfl rfl h

/-- spacecraft tcframe.control -/
def F31 (craft1 : Int) (channel2 : Int) (data_a3 : Option Addr) (data_n4 : Nat) (data_c5 : Nat) (w6 : World) (k : Value → World → Prop) : Prop :=
  New w6 24 [.bool false, .bool false, .int .i64 0, .int .i64 0, .int .i64 0, .slice none 0 0] (fun p7 w8 => PutAll w8 p7 [.bool true, .bool true, .int .i64 craft1, .int .i64 channel2, .int .i64 0, .slice data_a3 data_n4 data_c5] (fun w9 => ∃ (r11 r12 : Bool) (r13 r14 r15 : Int) (r_a16 : Option Addr) (r_n17 r_c18 : Nat), Cells w9 p7 0 [.bool r11, .bool r12, .int .i64 r13, .int .i64 r14, .int .i64 r15, .slice r_a16 r_n17 r_c18] ∧ k (.agg #[.bool r11, .bool r12, .int .i64 r13, .int .i64 r14, .int .i64 r15, .slice r_a16 r_n17 r_c18]) w9))
set_option maxRecDepth 100000 in
set_option maxHeartbeats 2000000 in
theorem w31 (craft1 : Int) (channel2 : Int) (data_a3 : Option Addr) (data_n4 : Nat) (data_c5 : Nat) (w6 : World) (k : Value → World → Prop) (h : F31 craft1 channel2 data_a3 data_n4 data_c5 w6 k) : Does Try.prog 31 #[.int .i64 craft1, .int .i64 channel2, .slice data_a3 data_n4 data_c5] w6 k := by
  refine enter 11 Try.func31 rfl rfl rfl ?_
  intro ρ hρ
  have e0 := hρ 0 _ rfl
  have e1 := hρ 1 _ rfl
  have e2 := hρ 2 _ rfl
  unfold F31 at h
  refine WC_seq ?_
  refine WC_region ?_
  have h := New.out h
  refine WL_val gd0 (o_alloc (z := .agg #[.bool false, .bool false, .int .i64 0, .int .i64 0, .int .i64 0, .slice none 0 0]) (cs := [.bool false, .bool false, .int .i64 0, .int .i64 0, .int .i64 0, .slice none 0 0]) Try.zeroValue24 rfl) rfl ?_
  generalize hp7 : fresh w6 = p7 at h ⊢
  generalize hw8 : push w6 24 [.bool false, .bool false, .int .i64 0, .int .i64 0, .int .i64 0, .slice none 0 0] = w8 at h ⊢
  try dsimp only at h
  refine WL_nil ?_
  refine nrm ?_
  refine WC_seq ?_
  refine WC_region ?_
  refine WL_val gd0 ((o_move (v := .int .i64 craft1) (by exact e0)) _) rfl ?_
  refine WL_val gd0 ((o_move (v := .int .i64 channel2) (by exact e1)) _) rfl ?_
  refine WL_val gd0 ((o_move (v := .slice data_a3 data_n4 data_c5) (by exact e2)) _) rfl ?_
  refine WL_val gd0 ((o_build (ps := [(0, .bool true), (1, .bool true), (2, .int .i64 craft1), (3, .int .i64 channel2), (5, .slice data_a3 data_n4 data_c5)]) (v := .agg #[.bool true, .bool true, .int .i64 craft1, .int .i64 channel2, .int .i64 0, .slice data_a3 data_n4 data_c5]) (partCons rfl (partCons rfl (partCons rfl (partCons rfl (partCons rfl partNil))))) (fun w => by kernel_rfl)) _) rfl ?_
  obtain ⟨c10, h⟩ := h
  refine WL_act gd0 (o_storeAgg (vs := [.bool true, .bool true, .int .i64 craft1, .int .i64 channel2, .int .i64 0, .slice data_a3 data_n4 data_c5]) Try.sizeOf24 rfl rfl rfl c10) ?_
  generalize hw9 : setAll w8 p7 0 [.bool true, .bool true, .int .i64 craft1, .int .i64 channel2, .int .i64 0, .slice data_a3 data_n4 data_c5] = w9 at h ⊢
  try dsimp only at h
  refine WL_nil ?_
  refine nrm ?_
  refine WC_ret ?_
  refine rtE ?_
  obtain ⟨r11, r12, r13, r14, r15, r_a16, r_n17, r_c18, hc19, h⟩ := h
  exact gvC (vs := [.bool r11, .bool r12, .int .i64 r13, .int .i64 r14, .int .i64 r15, .slice r_a16 r_n17 r_c18]) rfl Try.isAgg24 Try.sizeOf24 rfl hc19 h

/-- spacecraft spacecraftref01.Sum16 -/
def F32 (b_a1 : Option Addr) (b_n2 : Nat) (b_c3 : Nat) (w4 : World) (k : Value → World → Prop) : Prop :=
  Does Try.prog 40 #[.int .u16 65535, .slice b_a1 b_n2 b_c3] w4 (fun v w5 => ∃ (t6 : Int), v = .int .u16 t6 ∧ k (.int .u16 t6) w5)
set_option maxRecDepth 100000 in
set_option maxHeartbeats 2000000 in
theorem w32 (b_a1 : Option Addr) (b_n2 : Nat) (b_c3 : Nat) (w4 : World) (k : Value → World → Prop) (h : F32 b_a1 b_n2 b_c3 w4 k) : Does Try.prog 32 #[.slice b_a1 b_n2 b_c3] w4 k := by
  refine enter 5 Try.func32 rfl rfl rfl ?_
  intro ρ hρ
  have e0 := hρ 0 _ rfl
  unfold F32 at h
  refine WC_seq ?_
  refine WC_region ?_
  refine WL_val gd0 ((o_assign (v := .int .u16 0) rfl) _) rfl ?_
  refine WL_nil ?_
  refine nrm ?_
  refine WC_seq ?_
  refine WC_region ?_
  refine WL_val gd0 ((o_move (v := .slice b_a1 b_n2 b_c3) (by exact e0)) _) rfl ?_
  refine WL_call gd0 (o_call Try.call40 (argCons rfl (argCons rfl argNil)) _) rfl (h.mono ?_)
  rintro _ w5 ⟨t6, rfl, h⟩
  refine WL_val gd0 ((o_assign (v := .int .u16 t6) rfl) _) rfl ?_
  refine WL_nil ?_
  refine nrm ?_
  refine WC_ret ?_
  refine rtE ?_
  exact gv1 rfl rfl h

/-- spacecraft crc.Sum16 -/
def F33 (b_a1 : Option Addr) (b_n2 : Nat) (b_c3 : Nat) (w4 : World) (k : Value → World → Prop) : Prop :=
  Does Try.prog 41 #[.int .u16 65535, .slice b_a1 b_n2 b_c3] w4 (fun v w5 => ∃ (t6 : Int), v = .int .u16 t6 ∧ k (.int .u16 t6) w5)
set_option maxRecDepth 100000 in
set_option maxHeartbeats 2000000 in
theorem w33 (b_a1 : Option Addr) (b_n2 : Nat) (b_c3 : Nat) (w4 : World) (k : Value → World → Prop) (h : F33 b_a1 b_n2 b_c3 w4 k) : Does Try.prog 33 #[.slice b_a1 b_n2 b_c3] w4 k := by
  refine enter 5 Try.func33 rfl rfl rfl ?_
  intro ρ hρ
  have e0 := hρ 0 _ rfl
  unfold F33 at h
  refine WC_seq ?_
  refine WC_region ?_
  refine WL_val gd0 ((o_assign (v := .int .u16 0) rfl) _) rfl ?_
  refine WL_nil ?_
  refine nrm ?_
  refine WC_seq ?_
  refine WC_region ?_
  refine WL_val gd0 ((o_move (v := .slice b_a1 b_n2 b_c3) (by exact e0)) _) rfl ?_
  refine WL_call gd0 (o_call Try.call41 (argCons rfl (argCons rfl argNil)) _) rfl (h.mono ?_)
  rintro _ w5 ⟨t6, rfl, h⟩
  refine WL_val gd0 ((o_assign (v := .int .u16 t6) rfl) _) rfl ?_
  refine WL_nil ?_
  refine nrm ?_
  refine WC_ret ?_
  refine rtE ?_
  exact gv1 rfl rfl h

/-- spacecraft bits.NewWriter -/
def F34 (w1 : World) (k : Value → World → Prop) : Prop :=
  New w1 61 [.bool true, .slice none 0 0, .int .i64 0] (fun p2 w3 => k (.pointer (some p2)) w3)
set_option maxRecDepth 100000 in
set_option maxHeartbeats 2000000 in
theorem w34 (w1 : World) (k : Value → World → Prop) (h : F34 w1 k) : Does Try.prog 34 #[] w1 k := by
  refine enter 3 Try.func34 rfl rfl rfl ?_
  intro ρ hρ
  unfold F34 at h
  refine WC_seq ?_
  refine WC_region ?_
  refine WL_val gd0 ((o_assign (v := .pointer none) rfl) _) rfl ?_
  refine WL_nil ?_
  refine nrm ?_
  refine WC_seq ?_
  refine WC_region ?_
  refine WL_val gd0 ((o_build (ps := [(0, .bool true)]) (v := .agg #[.bool true, .slice none 0 0, .int .i64 0]) (partCons rfl partNil) (fun w => by kernel_rfl)) _) rfl ?_
  have h := New.out h
  refine WL_val gd0 (o_box (v := .agg #[.bool true, .slice none 0 0, .int .i64 0]) (cs := [.bool true, .slice none 0 0, .int .i64 0]) rfl rfl) rfl ?_
  generalize hp2 : fresh w1 = p2 at h ⊢
  generalize hw3 : push w1 61 [.bool true, .slice none 0 0, .int .i64 0] = w3 at h ⊢
  try dsimp only at h
  refine WL_val gd0 ((o_assign (v := .pointer (some p2)) rfl) _) rfl ?_
  refine WL_nil ?_
  refine nrm ?_
  refine WC_ret ?_
  refine rtE ?_
  exact gv1 rfl rfl h

def F35_j3 (width3 : Int) (t20 : Int) (w1 : Option Addr) (n2 : Int) (w30 : World) (nx21 : Int → World → Prop) : Prop :=
  (0 : Int) ≤ IntKind.i64.wrap ((IntKind.i64.wrap (width3 - 1)) - t20) ∧ ∃ (p32 : Addr), w1 = some p32 ∧ ∃ (x_a34 : Option Addr) (x_n35 x_c36 : Nat), w30.drew.cell? (p32.add 1) = some (.slice x_a34 x_n35 x_c36) ∧ ∃ (x38 : Int), w30.drew.cell? (p32.add 2) = some (.int .i64 x38) ∧ ∃ (p42 : Addr), x_a34 = some p42 ∧ (0 : Int) ≤ IntKind.i64.wrap (Int.tdiv x38 8) ∧ IntKind.i64.wrap (Int.tdiv x38 8) < (x_n35 : Int) ∧ ∃ (x44 : Int), w30.drew.cell? (p42.add ((IntKind.i64.wrap (Int.tdiv x38 8)).toNat)) = some (.int .u8 x44) ∧ ∃ (x46 : Int), w30.drew.cell? (p32.add 2) = some (.int .i64 x46) ∧ (0 : Int) ≤ IntKind.i64.wrap (7 - (Int.tmod x46 8)) ∧ (0 : Int) ≤ IntKind.i64.wrap (Int.tdiv x38 8) ∧ IntKind.i64.wrap (Int.tdiv x38 8) < (x_n35 : Int) ∧ Put w30.drew (p42.add ((IntKind.i64.wrap (Int.tdiv x38 8)).toNat)) (.int .u8 (bor .u8 x44 (shl .u8 (IntKind.u8.wrap (band .u64 (shr .u64 n2 (IntKind.i64.wrap ((IntKind.i64.wrap (width3 - 1)) - t20))) 1)) (IntKind.i64.wrap (7 - (Int.tmod x46 8)))))) (fun w51 => ∃ (x53 : Int), w51.cell? (p32.add 2) = some (.int .i64 x53) ∧ Put w51 (p32.add 2) (.int .i64 (IntKind.i64.wrap (x53 + 1))) (fun w55 => nx21 (IntKind.i64.wrap (t20 + 1)) w55))
def F35_b2 (width3 : Int) (w1 : Option Addr) (n2 : Int) (t20 : Int) (w21 : World) (nx21 : Int → World → Prop) (k : Value → World → Prop) : Prop :=
  if t20 < width3 then
  ∃ (p57 : Addr), w1 = some p57 ∧ ∃ (x59 : Int), w21.cell? (p57.add 2) = some (.int .i64 x59) ∧ if (Int.tmod x59 8) = 0 then
    ∃ (x_a62 : Option Addr) (x_n63 x_c64 : Nat), w21.cell? (p57.add 1) = some (.slice x_a62 x_n63 x_c64) ∧ New w21 5 [.int .u8 0] (fun p66 w67 => ∃ (b_a68 : Option Addr) (b_n69 b_c70 : Nat) (w71 : World), (Builtin.append_ #[22, 22] 22 #[.slice x_a62 x_n63 x_c64, .slice (some p66) 1 1]).run Try.prog w67 = .ok (.slice b_a68 b_n69 b_c70) w71 ∧ Put w71 (p57.add 1) (.slice b_a68 b_n69 b_c70) (fun w73 => F35_j3 width3 t20 w1 n2 w73 nx21))
  else
    F35_j3 width3 t20 w1 n2 w21 nx21
else
  k (.pointer w1) w21
def F35_j1 (w1 : Option Addr) (width3 : Int) (n2 : Int) (t12 : Bool) (w13 : World) (k : Value → World → Prop) : Prop :=
  if t12 = true then
  k (.pointer w1) w13
else
  LoopP (fun (s : Int) w' nx' => F35_b2 width3 w1 n2 s w' (fun x0 w => nx' x0 w) k) 0 w13
/-- (*spacecraft bits.Writer).Put -/
def F35 (w1 : Option Addr) (n2 : Int) (width3 : Int) (w4 : World) (k : Value → World → Prop) : Prop :=
  Does Try.prog 42 #[.pointer w1] w4 (fun v w5 => ∃ (x6 : Bool), v = .bool x6 ∧ if (!x6) = true then
  k (.pointer none) w5
else
  if width3 < 0 then
    F35_j1 w1 width3 n2 true w5 k
  else
    F35_j1 w1 width3 n2 (decide (64 < width3)) w5 k)
set_option maxRecDepth 100000 in
set_option maxHeartbeats 2000000 in
theorem w35 (w1 : Option Addr) (n2 : Int) (width3 : Int) (w4 : World) (k : Value → World → Prop) (h : F35 w1 n2 width3 w4 k) : Does Try.prog 35 #[.pointer w1, .int .u64 n2, .int .i64 width3] w4 k := by
  refine enter 76 Try.func35 rfl rfl rfl ?_
  intro ρ hρ
  have e0 := hρ 0 _ rfl
  have e1 := hρ 1 _ rfl
  have e2 := hρ 2 _ rfl
  unfold F35 at h
  refine WC_seq ?_
  refine WC_region ?_
  refine WL_val gd0 ((o_assign (v := .pointer none) rfl) _) rfl ?_
  refine WL_nil ?_
  refine nrm ?_
  refine WC_seq ?_
  refine WC_seq ?_
  refine WC_region ?_
  refine WL_val gd0 ((o_move (v := .pointer w1) (by exact e0)) _) rfl ?_
  refine WL_call gd0 (o_call Try.call42 (argCons rfl argNil) _) rfl (h.mono ?_)
  rintro _ w5 ⟨x6, rfl, h⟩
  refine WL_val gd0 ((o_not rfl) _) rfl ?_
  refine WL_nil ?_
  refine nrm ?_
  refine WC_cond (t := (!x6)) rfl (fun hb7 => ?_) (fun hb7 => ?_)
  · rw [if_pos hb7] at h
    refine WC_seq ?_
    refine WC_region ?_
    refine WL_val gd0 ((o_assign (v := .pointer none) rfl) _) rfl ?_
    refine WL_nil ?_
    refine nrm ?_
    refine WC_ret ?_
    refine rtT ?_
    refine rtE ?_
    exact gv1 rfl rfl h
  · rw [if_neg (neT hb7)] at h
    refine WC_skip ?_
    refine nrm ?_
    refine WC_seq ?_
    refine WC_cut (fun ρ w' => ∃ (t12 : Bool), ρ 17 = .bool t12 ∧ ρ 0 = .pointer w1 ∧ ρ 1 = .int .u64 n2 ∧ ρ 2 = .int .i64 width3 ∧ F35_j1 w1 width3 n2 t12 w' k) ?_ ?_
    · refine WC_region ?_
      refine WL_val gd0 ((o_move (v := .int .i64 width3) (by exact e2)) _) rfl ?_
      refine WL_val gd0 ((o_lss rfl rfl) _) rfl ?_
      refine WL_val gd0 ((o_move (v := .bool (decide (width3 < 0))) rfl) _) rfl ?_
      refine bsplit (decide (width3 < 0)) (fun hb75 => ?_) (fun hb75 => ?_)
      · rw [if_pos (of_decide_eq_true hb75)] at h
        refine WL_skip (gdN (b := (decide (width3 < 0))) 14 rfl rfl hb75) rfl ?_
        refine WL_skip (gdN (b := (decide (width3 < 0))) 14 rfl rfl hb75) rfl ?_
        refine WL_val gd0 ((o_pickT (v := .bool true) rfl hb75 rfl) _) rfl ?_
        refine WL_nil ?_
        refine nrm ?_
        exact ⟨_, rfl, e0, e1, e2, h⟩
      · rw [if_neg (of_decide_eq_false hb75)] at h
        refine WL_val (gdY (b := (decide (width3 < 0))) 14 rfl rfl hb75) ((o_move (v := .int .i64 width3) (by exact e2)) _) rfl ?_
        refine WL_val (gdY (b := (decide (width3 < 0))) 14 rfl rfl hb75) ((o_gtr rfl rfl) _) rfl ?_
        refine WL_val gd0 ((o_pickF (v := .bool (decide (64 < width3))) rfl hb75 rfl) _) rfl ?_
        refine WL_nil ?_
        refine nrm ?_
        exact ⟨_, rfl, e0, e1, e2, h⟩
    · rintro ρ w13 ⟨t12, e17_11, e0_8, e1_9, e2_10, h⟩
      unfold F35_j1 at h
      refine WC_cond (t := t12) (by exact e17_11) (fun hb14 => ?_) (fun hb14 => ?_)
      · rw [if_pos hb14] at h
        refine WC_seq ?_
        refine WC_region ?_
        refine WL_val gd0 ((o_move (v := .pointer w1) (by exact e0_8)) _) rfl ?_
        refine WL_val gd0 ((o_assign (v := .pointer w1) rfl) _) rfl ?_
        refine WL_nil ?_
        refine nrm ?_
        refine WC_ret ?_
        refine rtT ?_
        refine rtE ?_
        exact gv1 rfl rfl h
      · rw [if_neg (neT hb14)] at h
        refine WC_skip ?_
        refine nrm ?_
        refine WC_seq ?_
        refine WC_seq ?_
        refine WC_region ?_
        refine WL_val gd0 ((o_move (v := .int .i64 width3) (by exact e2_10)) _) rfl ?_
        refine WL_val gd0 ((o_move (v := .int .i64 0) rfl) _) rfl ?_
        refine WL_nil ?_
        refine nrm ?_
        refine WC_block ?_
        obtain ⟨J21, ⟨n21, h0⟩, hr21⟩ := h
        refine WC_loop (fun n ρ w' => ∃ (t20 : Int), ρ 20 = .int .i64 t20 ∧ ρ 0 = .pointer w1 ∧ ρ 1 = .int .u64 n2 ∧ ρ 2 = .int .i64 width3 ∧ ρ 19 = .int .i64 width3 ∧ J21 n t20 w') ⟨n21, _, rfl, e0_8, e1_9, e2_10, rfl, h0⟩ ?_
        rintro n21 ρ w21 ⟨t20, e20_19, e0_15, e1_16, e2_17, e19_18, h⟩
        have h : F35_b2 width3 w1 n2 t20 w21 (fun x0 w => ∃ m, m < n21 ∧ J21 m x0 w) k := hr21 n21 t20 w21 h
        unfold F35_b2 at h
        refine WC_seq ?_
        refine WC_region ?_
        refine WL_val gd0 ((o_lss (by exact e20_19) (by exact e19_18)) _) rfl ?_
        refine WL_nil ?_
        refine nrm ?_
        refine WC_seq ?_
        refine WC_cond (t := (decide (t20 < width3))) rfl (fun hb23 => ?_) (fun hb23 => ?_)
        · rw [if_pos (of_decide_eq_true hb23)] at h
          refine WC_skip ?_
          refine nrm ?_
          refine WC_seq ?_
          refine WC_block ?_
          refine WC_seq ?_
          refine WC_region ?_
          refine WL_val gd0 ((o_move (v := .int .i64 t20) (by exact e20_19)) _) rfl ?_
          refine WL_val gd0 ((o_assign (v := .int .i64 t20) rfl) _) rfl ?_
          refine WL_nil ?_
          refine nrm ?_
          refine WC_cut (fun ρ w' => ρ 0 = .pointer w1 ∧ ρ 1 = .int .u64 n2 ∧ ρ 2 = .int .i64 width3 ∧ ρ 7 = .int .i64 t20 ∧ ρ 19 = .int .i64 width3 ∧ ρ 20 = .int .i64 t20 ∧ F35_j3 width3 t20 w1 n2 w' (fun x0 w => ∃ m, m < n21 ∧ J21 m x0 w)) ?_ ?_
          · refine WC_seq ?_
            refine WC_region ?_
            refine WL_val gd0 ((o_move (v := .pointer w1) (by exact e0_15)) _) rfl ?_
            obtain ⟨p57, q58, h⟩ := h
            refine WL_val gd0 ((o_nilCheck (by exact (congrArg Value.pointer q58))) _) rfl ?_
            refine WL_val gd0 ((o_fieldAddr 2 Try.underlying61 rfl Try.sizeOf3 rfl rfl rfl) _) rfl ?_
            obtain ⟨x59, hc60, h⟩ := h
            refine WL_val gd0 (o_load Try.isAgg3 rfl hc60) rfl ?_
            refine WL_val gd0 ((fun w => o_rem rfl rfl w (by decide)) _) rfl ?_
            refine WL_val gd0 ((o_eql rfl rfl) _) rfl ?_
            refine WL_nil ?_
            refine nrm ?_
            refine WC_cond (t := (decide ((Int.tmod x59 8) = 0))) rfl (fun hb61 => ?_) (fun hb61 => ?_)
            · rw [if_pos (of_decide_eq_true hb61)] at h
              refine WC_region ?_
              refine WL_val gd0 ((o_move (v := .pointer w1) (by exact e0_15)) _) rfl ?_
              refine WL_val gd0 ((o_move (v := .pointer w1) (by exact e0_15)) _) rfl ?_
              refine WL_val gd0 ((o_nilCheck (by exact (congrArg Value.pointer q58))) _) rfl ?_
              refine WL_val gd0 ((o_fieldAddr 1 Try.underlying61 rfl Try.sizeOf22 rfl rfl rfl) _) rfl ?_
              obtain ⟨x_a62, x_n63, x_c64, hc65, h⟩ := h
              refine WL_val gd0 (o_load Try.isAgg22 rfl hc65) rfl ?_
              have h := New.out h
              refine WL_val gd0 (o_buildSlice (e := 5) (ps := [(0, .int .u8 0)]) (cs := [.int .u8 0]) (partCons rfl partNil) (fun w => by kernel_rfl)) rfl ?_
              generalize hp66 : fresh w21 = p66 at h ⊢
              generalize hw67 : push w21 5 [.int .u8 0] = w67 at h ⊢
              try dsimp only at h
              obtain ⟨b_a68, b_n69, b_c70, w71, r72, h⟩ := h
              refine WL_val gd0 (o_append rfl rfl r72) rfl ?_
              refine WL_val gd0 ((o_nilCheck (by exact (congrArg Value.pointer q58))) _) rfl ?_
              refine WL_val gd0 ((o_fieldAddr 1 Try.underlying61 rfl Try.sizeOf22 rfl rfl rfl) _) rfl ?_
              obtain ⟨c74, h⟩ := h
              refine WL_act gd0 (o_store (v := .slice b_a68 b_n69 b_c70) Try.sizeOf22 rfl rfl rfl c74) ?_
              generalize hw73 : World.setCell w71 (p57.add 1) (.slice b_a68 b_n69 b_c70) = w73 at h ⊢
              try dsimp only at h
              refine WL_nil ?_
              refine nrm ?_
              exact ⟨e0_15, e1_16, e2_17, rfl, e19_18, e20_19, h⟩
            · rw [if_neg (of_decide_eq_false hb61)] at h
              refine WC_skip ?_
              refine nrm ?_
              exact ⟨e0_15, e1_16, e2_17, rfl, e19_18, e20_19, h⟩
          · rintro ρ w30 ⟨e0_24, e1_25, e2_26, e7_27, e19_28, e20_29, h⟩
            unfold F35_j3 at h
            refine WC_seq ?_
            refine WC_region ?_
            refine WL_val gd0 ((o_move (v := .int .u64 n2) (by exact e1_25)) _) rfl ?_
            refine WL_val gd0 ((o_move (v := .int .i64 width3) (by exact e2_26)) _) rfl ?_
            refine WL_val gd0 ((o_sub rfl rfl) _) rfl ?_
            refine WL_val gd0 ((o_move (v := .int .i64 t20) (by exact e7_27)) _) rfl ?_
            refine WL_val gd0 ((o_sub rfl rfl) _) rfl ?_
            obtain ⟨c31, h⟩ := h
            refine WL_val gd0 ((o_shr rfl rfl c31) _) rfl ?_
            refine WL_val gd0 ((o_and rfl rfl) _) rfl ?_
            refine WL_val gd0 ((o_conv Try.underlying46 Try.underlying5 rfl) _) rfl ?_
            refine WL_val gd0 ((o_assign (v := .int .u8 (IntKind.u8.wrap (band .u64 (shr .u64 n2 (IntKind.i64.wrap ((IntKind.i64.wrap (width3 - 1)) - t20))) 1))) rfl) _) rfl ?_
            refine WL_nil ?_
            refine nrm ?_
            refine WC_seq ?_
            refine WC_draws [21] (.look 0 (.look 1 (.look 2 (.look 3 (.look 4 (.look 5 (.look 6 (.look 7 (.look 8 (.look 9 (.look 10 (.look 11 (.look 12 (.look 13 (.look 14 (.look 15 (.look 16 (.look 17 (.look 18 (.look 19 (.look 20 (.act 21 .nil)))))))))))))))))))))) Try.mixed (by kernel_rfl) ?_
            refine WQ_val rfl gd0 (o_move (v := .pointer w1) (by exact e0_24)) rfl ?_
            obtain ⟨p32, q33, h⟩ := h
            refine WQ_val rfl gd0 (o_nilCheck (by exact (congrArg Value.pointer q33))) rfl ?_
            refine WQ_val rfl gd0 (o_fieldAddr 1 Try.underlying61 rfl Try.sizeOf22 rfl rfl rfl) rfl ?_
            obtain ⟨x_a34, x_n35, x_c36, hc37, h⟩ := h
            refine WQ_look (fun w => w.cell? (p32.add 1) = some (.slice x_a34 x_n35 x_c36)) rfl gd0 (fun w hc => (o_load Try.isAgg22 rfl hc)) hc37 rfl ?_
            refine WQ_val rfl gd0 (o_move (v := .pointer w1) (by exact e0_24)) rfl ?_
            refine WQ_val rfl gd0 (o_nilCheck (by exact (congrArg Value.pointer q33))) rfl ?_
            refine WQ_val rfl gd0 (o_fieldAddr 2 Try.underlying61 rfl Try.sizeOf3 rfl rfl rfl) rfl ?_
            obtain ⟨x38, hc39, h⟩ := h
            refine WQ_look (fun w => w.cell? (p32.add 2) = some (.int .i64 x38)) rfl gd0 (fun w hc => (o_load Try.isAgg3 rfl hc)) hc39 rfl ?_
            refine WQ_val rfl gd0 (fun w => o_quo rfl rfl w (by decide)) rfl ?_
            obtain ⟨p42, q43, h⟩ := h
            obtain ⟨l40, u41, h⟩ := h
            refine WQ_val rfl gd0 (o_indexAddr1 Try.underlying22 Try.sizeOf5 (by exact (congrArg (fun z => Value.slice z x_n35 x_c36) q43)) rfl l40 u41) rfl ?_
            obtain ⟨x44, hc45, h⟩ := h
            refine WQ_look (fun w => w.cell? (p42.add ((IntKind.i64.wrap (Int.tdiv x38 8)).toNat)) = some (.int .u8 x44)) rfl gd0 (fun w hc => (o_load Try.isAgg5 rfl hc)) hc45 rfl ?_
            refine WQ_val rfl gd0 (o_move (v := .int .u8 (IntKind.u8.wrap (band .u64 (shr .u64 n2 (IntKind.i64.wrap ((IntKind.i64.wrap (width3 - 1)) - t20))) 1))) rfl) rfl ?_
            refine WQ_val rfl gd0 (o_move (v := .pointer w1) (by exact e0_24)) rfl ?_
            refine WQ_val rfl gd0 (o_nilCheck (by exact (congrArg Value.pointer q33))) rfl ?_
            refine WQ_val rfl gd0 (o_fieldAddr 2 Try.underlying61 rfl Try.sizeOf3 rfl rfl rfl) rfl ?_
            obtain ⟨x46, hc47, h⟩ := h
            refine WQ_look (fun w => w.cell? (p32.add 2) = some (.int .i64 x46)) rfl gd0 (fun w hc => (o_load Try.isAgg3 rfl hc)) hc47 rfl ?_
            refine WQ_val rfl gd0 (fun w => o_rem rfl rfl w (by decide)) rfl ?_
            refine WQ_val rfl gd0 (o_sub rfl rfl) rfl ?_
            obtain ⟨c48, h⟩ := h
            refine WQ_val rfl gd0 (o_shl rfl rfl c48) rfl ?_
            refine WQ_val rfl gd0 (o_or rfl rfl) rfl ?_
            obtain ⟨l49, u50, h⟩ := h
            refine WQ_val rfl gd0 (o_indexAddr1 Try.underlying22 Try.sizeOf5 (by exact (congrArg (fun z => Value.slice z x_n35 x_c36) q43)) rfl l49 u50) rfl ?_
            obtain ⟨c52, h⟩ := h
            refine WQ_do rfl gd0 (o_store (v := .int .u8 (bor .u8 x44 (shl .u8 (IntKind.u8.wrap (band .u64 (shr .u64 n2 (IntKind.i64.wrap ((IntKind.i64.wrap (width3 - 1)) - t20))) 1)) (IntKind.i64.wrap (7 - (Int.tmod x46 8)))))) Try.sizeOf5 rfl rfl rfl c52) (by exact ⟨⟨⟨⟨trivial, depT (by kernel_rfl)⟩, depT (by kernel_rfl)⟩, depT (by kernel_rfl)⟩, depT (by kernel_rfl)⟩) ?_
            generalize hw51 : World.setCell w30.drew (p42.add ((IntKind.i64.wrap (Int.tdiv x38 8)).toNat)) (.int .u8 (bor .u8 x44 (shl .u8 (IntKind.u8.wrap (band .u64 (shr .u64 n2 (IntKind.i64.wrap ((IntKind.i64.wrap (width3 - 1)) - t20))) 1)) (IntKind.i64.wrap (7 - (Int.tmod x46 8)))))) = w51 at h ⊢
            try dsimp only at h
            refine WQ_nil ?_
            refine nrm ?_
            refine WC_region ?_
            refine WL_val gd0 ((o_move (v := .pointer w1) (by exact e0_24)) _) rfl ?_
            refine WL_val gd0 ((o_nilCheck (by exact (congrArg Value.pointer q33))) _) rfl ?_
            refine WL_val gd0 ((o_fieldAddr 2 Try.underlying61 rfl Try.sizeOf3 rfl rfl rfl) _) rfl ?_
            obtain ⟨x53, hc54, h⟩ := h
            refine WL_val gd0 (o_load Try.isAgg3 rfl hc54) rfl ?_
            refine WL_val gd0 ((o_add rfl rfl) _) rfl ?_
            refine WL_val gd0 ((o_nilCheck (by exact (congrArg Value.pointer q33))) _) rfl ?_
            refine WL_val gd0 ((o_fieldAddr 2 Try.underlying61 rfl Try.sizeOf3 rfl rfl rfl) _) rfl ?_
            obtain ⟨c56, h⟩ := h
            refine WL_act gd0 (o_store (v := .int .i64 (IntKind.i64.wrap (x53 + 1))) Try.sizeOf3 rfl rfl rfl c56) ?_
            generalize hw55 : World.setCell w51 (p32.add 2) (.int .i64 (IntKind.i64.wrap (x53 + 1))) = w55 at h ⊢
            try dsimp only at h
            refine WL_nil ?_
            refine nrmB ?_
            refine nrm ?_
            refine WC_region ?_
            refine WL_val gd0 ((o_add (by exact e20_29) rfl) _) rfl ?_
            refine WL_val gd0 ((o_move (v := .int .i64 (IntKind.i64.wrap (t20 + 1))) rfl) _) rfl ?_
            refine WL_nil ?_
            refine nrm ?_
            obtain ⟨m22, hm22, h⟩ := h
            exact ⟨m22, hm22, _, rfl, e0_24, e1_25, e2_26, e19_28, h⟩
        · rw [if_neg (of_decide_eq_false hb23)] at h
          refine WC_exit ?_
          refine exT ?_
          refine exT ?_
          refine exB ?_
          refine nrm ?_
          refine WC_seq ?_
          refine WC_region ?_
          refine WL_val gd0 ((o_move (v := .pointer w1) (by exact e0_15)) _) rfl ?_
          refine WL_val gd0 ((o_assign (v := .pointer w1) rfl) _) rfl ?_
          refine WL_nil ?_
          refine nrm ?_
          refine WC_ret ?_
          refine rtE ?_
          exact gv1 rfl rfl h

/-- spacecraft tcframe.flag -/
def F36 (b1 : Bool) (w2 : World) (k : Value → World → Prop) : Prop :=
  if b1 = true then
  k (.int .u64 1) w2
else
  k (.int .u64 0) w2
set_option maxRecDepth 100000 in
set_option maxHeartbeats 2000000 in
theorem w36 (b1 : Bool) (w2 : World) (k : Value → World → Prop) (h : F36 b1 w2 k) : Does Try.prog 36 #[.bool b1] w2 k := by
  refine enter 4 Try.func36 rfl rfl rfl ?_
  intro ρ hρ
  have e0 := hρ 0 _ rfl
  unfold F36 at h
  refine WC_seq ?_
  refine WC_region ?_
  refine WL_val gd0 ((o_assign (v := .int .u64 0) rfl) _) rfl ?_
  refine WL_nil ?_
  refine nrm ?_
  refine WC_seq ?_
  refine WC_seq ?_
  refine WC_region ?_
  refine WL_val gd0 ((o_move (v := .bool b1) (by exact e0)) _) rfl ?_
  refine WL_nil ?_
  refine nrm ?_
  refine WC_cond (t := b1) rfl (fun hb3 => ?_) (fun hb3 => ?_)
  · rw [if_pos hb3] at h
    refine WC_seq ?_
    refine WC_region ?_
    refine WL_val gd0 ((o_assign (v := .int .u64 1) rfl) _) rfl ?_
    refine WL_nil ?_
    refine nrm ?_
    refine WC_ret ?_
    refine rtT ?_
    refine rtE ?_
    exact gv1 rfl rfl h
  · rw [if_neg (neT hb3)] at h
    refine WC_skip ?_
    refine nrm ?_
    refine WC_seq ?_
    refine WC_region ?_
    refine WL_val gd0 ((o_assign (v := .int .u64 0) rfl) _) rfl ?_
    refine WL_nil ?_
    refine nrm ?_
    refine WC_ret ?_
    refine rtE ?_
    exact gv1 rfl rfl h

/-- (*spacecraft bits.Writer).Bytes -/
def F37 (w1 : Option Addr) (w2 : World) (k : Value → World → Prop) : Prop :=
  Does Try.prog 42 #[.pointer w1] w2 (fun v w3 => ∃ (x4 : Bool), v = .bool x4 ∧ if (!x4) = true then
  k (.slice none 0 0) w3
else
  New w3 5 [] (fun p6 w7 => ∃ (p8 : Addr), w1 = some p8 ∧ ∃ (x_a10 : Option Addr) (x_n11 x_c12 : Nat), w7.cell? (p8.add 1) = some (.slice x_a10 x_n11 x_c12) ∧ ∃ (b_a14 : Option Addr) (b_n15 b_c16 : Nat) (w17 : World), (Builtin.append_ #[22, 22] 22 #[.slice (some p6) 0 0, .slice x_a10 x_n11 x_c12]).run Try.prog w7 = .ok (.slice b_a14 b_n15 b_c16) w17 ∧ k (.slice b_a14 b_n15 b_c16) w17))
set_option maxRecDepth 100000 in
set_option maxHeartbeats 2000000 in
theorem w37 (w1 : Option Addr) (w2 : World) (k : Value → World → Prop) (h : F37 w1 w2 k) : Does Try.prog 37 #[.pointer w1] w2 k := by
  refine enter 12 Try.func37 rfl rfl rfl ?_
  intro ρ hρ
  have e0 := hρ 0 _ rfl
  unfold F37 at h
  refine WC_seq ?_
  refine WC_region ?_
  refine WL_val gd0 ((o_assign (v := .slice none 0 0) rfl) _) rfl ?_
  refine WL_nil ?_
  refine nrm ?_
  refine WC_seq ?_
  refine WC_seq ?_
  refine WC_region ?_
  refine WL_val gd0 ((o_move (v := .pointer w1) (by exact e0)) _) rfl ?_
  refine WL_call gd0 (o_call Try.call42 (argCons rfl argNil) _) rfl (h.mono ?_)
  rintro _ w3 ⟨x4, rfl, h⟩
  refine WL_val gd0 ((o_not rfl) _) rfl ?_
  refine WL_nil ?_
  refine nrm ?_
  refine WC_cond (t := (!x4)) rfl (fun hb5 => ?_) (fun hb5 => ?_)
  · rw [if_pos hb5] at h
    refine WC_seq ?_
    refine WC_region ?_
    refine WL_val gd0 ((o_assign (v := .slice none 0 0) rfl) _) rfl ?_
    refine WL_nil ?_
    refine nrm ?_
    refine WC_ret ?_
    refine rtT ?_
    refine rtE ?_
    exact gv1 rfl rfl h
  · rw [if_neg (neT hb5)] at h
    refine WC_skip ?_
    refine nrm ?_
    refine WC_seq ?_
    refine WC_region ?_
    have h := New.out h
    refine WL_val gd0 (o_buildSlice (e := 5) (ps := []) (cs := []) partNil (fun w => by kernel_rfl)) rfl ?_
    generalize hp6 : fresh w3 = p6 at h ⊢
    generalize hw7 : push w3 5 [] = w7 at h ⊢
    try dsimp only at h
    refine WL_val gd0 ((o_move (v := .pointer w1) (by exact e0)) _) rfl ?_
    obtain ⟨p8, q9, h⟩ := h
    refine WL_val gd0 ((o_nilCheck (by exact (congrArg Value.pointer q9))) _) rfl ?_
    refine WL_val gd0 ((o_fieldAddr 1 Try.underlying61 rfl Try.sizeOf22 rfl rfl rfl) _) rfl ?_
    obtain ⟨x_a10, x_n11, x_c12, hc13, h⟩ := h
    refine WL_val gd0 (o_load Try.isAgg22 rfl hc13) rfl ?_
    obtain ⟨b_a14, b_n15, b_c16, w17, r18, h⟩ := h
    refine WL_val gd0 (o_append rfl rfl r18) rfl ?_
    refine WL_val gd0 ((o_assign (v := .slice b_a14 b_n15 b_c16) rfl) _) rfl ?_
    refine WL_nil ?_
    refine nrm ?_
    refine WC_ret ?_
    refine rtE ?_
    exact gv1 rfl rfl h

/-- (*spacecraft bits.Reader).ok -/
def F38 (r1 : Option Addr) (w2 : World) (k : Value → World → Prop) : Prop :=
  if (!(r1).isNone) = true then
  ∃ (p4 : Addr), r1 = some p4 ∧ ∃ (x6 : Bool), w2.cell? p4 = some (.bool x6) ∧ if x6 = true then
    ∃ (x9 : Bool), w2.cell? (p4.add 3) = some (.bool x9) ∧ k (.bool (!x9)) w2
  else
    k (.bool false) w2
else
  k (.bool false) w2
set_option maxRecDepth 100000 in
set_option maxHeartbeats 2000000 in
theorem w38 (r1 : Option Addr) (w2 : World) (k : Value → World → Prop) (h : F38 r1 w2 k) : Does Try.prog 38 #[.pointer r1] w2 k := by
  refine enter 18 Try.func38 rfl rfl rfl ?_
  intro ρ hρ
  have e0 := hρ 0 _ rfl
  unfold F38 at h
  refine WC_seq ?_
  refine WC_region ?_
  refine WL_val gd0 ((o_assign (v := .bool false) rfl) _) rfl ?_
  refine WL_nil ?_
  refine nrm ?_
  refine WC_seq ?_
  refine WC_region ?_
  refine WL_val gd0 ((o_move (v := .pointer r1) (by exact e0)) _) rfl ?_
  refine WL_val gd0 ((o_neqPtrNil Try.underlying44 rfl rfl) _) rfl ?_
  refine WL_val gd0 ((o_move (v := .bool (!(r1).isNone)) rfl) _) rfl ?_
  refine bsplit (!(r1).isNone) (fun hb3 => ?_) (fun hb3 => ?_)
  · rw [if_pos hb3] at h
    refine WL_val (gdY (b := (!(r1).isNone)) 5 rfl rfl hb3) ((o_move (v := .pointer r1) (by exact e0)) _) rfl ?_
    obtain ⟨p4, q5, h⟩ := h
    refine WL_val (gdY (b := (!(r1).isNone)) 5 rfl rfl hb3) ((o_nilCheck (by exact (congrArg Value.pointer q5))) _) rfl ?_
    refine WL_val (gdY (b := (!(r1).isNone)) 5 rfl rfl hb3) ((o_fieldAddr0 Try.underlying57 rfl Try.sizeOf4 rfl rfl rfl) _) rfl ?_
    obtain ⟨x6, hc7, h⟩ := h
    refine WL_val (gdY (b := (!(r1).isNone)) 5 rfl rfl hb3) (o_load Try.isAgg4 rfl hc7) rfl ?_
    refine WL_val gd0 ((o_pickT (v := .bool x6) rfl hb3 rfl) _) rfl ?_
    refine WL_val gd0 ((o_move (v := .bool x6) rfl) _) rfl ?_
    refine bsplit x6 (fun hb8 => ?_) (fun hb8 => ?_)
    · rw [if_pos hb8] at h
      refine WL_val (gdY (b := x6) 11 rfl rfl hb8) ((o_move (v := .pointer r1) (by exact e0)) _) rfl ?_
      refine WL_val (gdY (b := x6) 11 rfl rfl hb8) ((o_nilCheck (by exact (congrArg Value.pointer q5))) _) rfl ?_
      refine WL_val (gdY (b := x6) 11 rfl rfl hb8) ((o_fieldAddr 3 Try.underlying57 rfl Try.sizeOf4 rfl rfl rfl) _) rfl ?_
      obtain ⟨x9, hc10, h⟩ := h
      refine WL_val (gdY (b := x6) 11 rfl rfl hb8) (o_load Try.isAgg4 rfl hc10) rfl ?_
      refine WL_val (gdY (b := x6) 11 rfl rfl hb8) ((o_not rfl) _) rfl ?_
      refine WL_val gd0 ((o_pickT (v := .bool (!x9)) rfl hb8 rfl) _) rfl ?_
      refine WL_val gd0 ((o_assign (v := .bool (!x9)) rfl) _) rfl ?_
      refine WL_nil ?_
      refine nrm ?_
      refine WC_ret ?_
      refine rtE ?_
      exact gv1 rfl rfl h
    · rw [if_neg (neT hb8)] at h
      refine WL_skip (gdN (b := x6) 11 rfl rfl hb8) rfl ?_
      refine WL_skip (gdN (b := x6) 11 rfl rfl hb8) rfl ?_
      refine WL_skip (gdN (b := x6) 11 rfl rfl hb8) rfl ?_
      refine WL_skip (gdN (b := x6) 11 rfl rfl hb8) rfl ?_
      refine WL_skip (gdN (b := x6) 11 rfl rfl hb8) rfl ?_
      refine WL_val gd0 ((o_pickF (v := .bool false) rfl hb8 rfl) _) rfl ?_
      refine WL_val gd0 ((o_assign (v := .bool false) rfl) _) rfl ?_
      refine WL_nil ?_
      refine nrm ?_
      refine WC_ret ?_
      refine rtE ?_
      exact gv1 rfl rfl h
  · rw [if_neg (neT hb3)] at h
    refine WL_skip (gdN (b := (!(r1).isNone)) 5 rfl rfl hb3) rfl ?_
    refine WL_skip (gdN (b := (!(r1).isNone)) 5 rfl rfl hb3) rfl ?_
    refine WL_skip (gdN (b := (!(r1).isNone)) 5 rfl rfl hb3) rfl ?_
    refine WL_skip (gdN (b := (!(r1).isNone)) 5 rfl rfl hb3) rfl ?_
    refine WL_val gd0 ((o_pickF (v := .bool false) rfl hb3 rfl) _) rfl ?_
    refine WL_val gd0 ((o_move (v := .bool false) rfl) _) rfl ?_
    refine WL_skip (gdN (b := false) 11 rfl rfl rfl) rfl ?_
    refine WL_skip (gdN (b := false) 11 rfl rfl rfl) rfl ?_
    refine WL_skip (gdN (b := false) 11 rfl rfl rfl) rfl ?_
    refine WL_skip (gdN (b := false) 11 rfl rfl rfl) rfl ?_
    refine WL_skip (gdN (b := false) 11 rfl rfl rfl) rfl ?_
    refine WL_val gd0 ((o_pickF (v := .bool false) rfl rfl rfl) _) rfl ?_
    refine WL_val gd0 ((o_assign (v := .bool false) rfl) _) rfl ?_
    refine WL_nil ?_
    refine nrm ?_
    refine WC_ret ?_
    refine rtE ?_
    exact gv1 rfl rfl h

/-- (*spacecraft bits.Reader).Left -/
def F39 (r1 : Option Addr) (w2 : World) (k : Value → World → Prop) : Prop :=
  Does Try.prog 38 #[.pointer r1] w2 (fun v w3 => ∃ (x4 : Bool), v = .bool x4 ∧ if (!x4) = true then
  k (.int .i64 0) w3
else
  ∃ (p6 : Addr), r1 = some p6 ∧ ∃ (x_a8 : Option Addr) (x_n9 x_c10 : Nat), w3.drew.cell? (p6.add 1) = some (.slice x_a8 x_n9 x_c10) ∧ ∃ (x12 : Int), w3.drew.cell? (p6.add 2) = some (.int .i64 x12) ∧ k (.int .i64 (IntKind.i64.wrap ((IntKind.i64.wrap (8 * (x_n9 : Int))) - x12))) w3.drew)
set_option maxRecDepth 100000 in
set_option maxHeartbeats 2000000 in
theorem w39 (r1 : Option Addr) (w2 : World) (k : Value → World → Prop) (h : F39 r1 w2 k) : Does Try.prog 39 #[.pointer r1] w2 k := by
  refine enter 17 Try.func39 rfl rfl rfl ?_
  intro ρ hρ
  have e0 := hρ 0 _ rfl
  unfold F39 at h
  refine WC_seq ?_
  refine WC_region ?_
  refine WL_val gd0 ((o_assign (v := .int .i64 0) rfl) _) rfl ?_
  refine WL_nil ?_
  refine nrm ?_
  refine WC_seq ?_
  refine WC_seq ?_
  refine WC_region ?_
  refine WL_val gd0 ((o_move (v := .pointer r1) (by exact e0)) _) rfl ?_
  refine WL_call gd0 (o_call Try.call38 (argCons rfl argNil) _) rfl (h.mono ?_)
  rintro _ w3 ⟨x4, rfl, h⟩
  refine WL_val gd0 ((o_not rfl) _) rfl ?_
  refine WL_nil ?_
  refine nrm ?_
  refine WC_cond (t := (!x4)) rfl (fun hb5 => ?_) (fun hb5 => ?_)
  · rw [if_pos hb5] at h
    refine WC_seq ?_
    refine WC_region ?_
    refine WL_val gd0 ((o_assign (v := .int .i64 0) rfl) _) rfl ?_
    refine WL_nil ?_
    refine nrm ?_
    refine WC_ret ?_
    refine rtT ?_
    refine rtE ?_
    exact gv1 rfl rfl h
  · rw [if_neg (neT hb5)] at h
    refine WC_skip ?_
    refine nrm ?_
    refine WC_seq ?_
    refine WC_draws [] (.look 0 (.look 1 (.look 2 (.look 3 (.look 4 (.look 5 (.look 6 (.look 7 (.look 8 (.look 9 (.look 10 (.look 11 .nil)))))))))))) Try.mixed (by kernel_rfl) ?_
    refine WQ_val rfl gd0 (o_move (v := .pointer r1) (by exact e0)) rfl ?_
    obtain ⟨p6, q7, h⟩ := h
    refine WQ_val rfl gd0 (o_nilCheck (by exact (congrArg Value.pointer q7))) rfl ?_
    refine WQ_val rfl gd0 (o_fieldAddr 1 Try.underlying57 rfl Try.sizeOf22 rfl rfl rfl) rfl ?_
    obtain ⟨x_a8, x_n9, x_c10, hc11, h⟩ := h
    refine WQ_look (fun w => w.cell? (p6.add 1) = some (.slice x_a8 x_n9 x_c10)) rfl gd0 (fun w hc => (o_load Try.isAgg22 rfl hc)) hc11 rfl ?_
    refine WQ_val rfl gd0 (o_len Try.underlying22 rfl) rfl ?_
    refine WQ_val rfl gd0 (o_mul rfl rfl) rfl ?_
    refine WQ_val rfl gd0 (o_move (v := .pointer r1) (by exact e0)) rfl ?_
    refine WQ_val rfl gd0 (o_nilCheck (by exact (congrArg Value.pointer q7))) rfl ?_
    refine WQ_val rfl gd0 (o_fieldAddr 2 Try.underlying57 rfl Try.sizeOf3 rfl rfl rfl) rfl ?_
    obtain ⟨x12, hc13, h⟩ := h
    refine WQ_look (fun w => w.cell? (p6.add 2) = some (.int .i64 x12)) rfl gd0 (fun w hc => (o_load Try.isAgg3 rfl hc)) hc13 rfl ?_
    refine WQ_val rfl gd0 (o_sub rfl rfl) rfl ?_
    refine WQ_val rfl gd0 (o_assign (v := .int .i64 (IntKind.i64.wrap ((IntKind.i64.wrap (8 * (x_n9 : Int))) - x12))) rfl) rfl ?_
    refine WQ_nil ?_
    refine nrm ?_
    refine WC_ret ?_
    refine rtE ?_
    exact gv1 rfl rfl h

def F40_b1 (b_n3 : Nat) (b_a2 : Option Addr) (b_c4 : Nat) (r8 : Int) (i10 : Int) (w11 : World) (nx11 : Int → Int → World → Prop) (k : Value → World → Prop) : Prop :=
  if i10 < (IntKind.i64.wrap (8 * (b_n3 : Int))) then
  Does Try.prog 43 #[.slice b_a2 b_n3 b_c4, .int .i64 i10] w11 (fun v w14 => ∃ (x15 : Int), v = .int .i64 x15 ∧ if (Int.tmod (IntKind.i64.wrap ((shr .i64 r8 15) + x15)) 2) = 1 then
    nx11 (bxor .i64 (Int.tmod (IntKind.i64.wrap (r8 * 2)) 65536) 4129) (IntKind.i64.wrap (i10 + 1)) w14
  else
    nx11 (Int.tmod (IntKind.i64.wrap (r8 * 2)) 65536) (IntKind.i64.wrap (i10 + 1)) w14)
else
  k (.int .u16 (IntKind.u16.wrap r8)) w11
/-- spacecraft spacecraftref01.Update16 -/
def F40 (c1 : Int) (b_a2 : Option Addr) (b_n3 : Nat) (b_c4 : Nat) (w5 : World) (k : Value → World → Prop) : Prop :=
  LoopP (fun (s : Int × Int) w' nx' => F40_b1 b_n3 b_a2 b_c4 (s.1) (s.2) w' (fun x0 x1 w => nx' (x0, x1) w) k) ((IntKind.i64.wrap c1), 0) w5
set_option maxRecDepth 100000 in
set_option maxHeartbeats 2000000 in
theorem w40 (c1 : Int) (b_a2 : Option Addr) (b_n3 : Nat) (b_c4 : Nat) (w5 : World) (k : Value → World → Prop) (h : F40 c1 b_a2 b_n3 b_c4 w5 k) : Does Try.prog 40 #[.int .u16 c1, .slice b_a2 b_n3 b_c4] w5 k := by
  refine enter 33 Try.func40 rfl rfl rfl ?_
  intro ρ hρ
  have e0 := hρ 0 _ rfl
  have e1 := hρ 1 _ rfl
  unfold F40 at h
  refine WC_seq ?_
  refine WC_region ?_
  refine WL_val gd0 ((o_assign (v := .int .u16 0) rfl) _) rfl ?_
  refine WL_nil ?_
  refine nrm ?_
  refine WC_seq ?_
  refine WC_region ?_
  refine WL_val gd0 ((o_move (v := .int .u16 c1) (by exact e0)) _) rfl ?_
  refine WL_val gd0 ((o_conv Try.underlying39 Try.underlying3 rfl) _) rfl ?_
  refine WL_val gd0 ((o_assign (v := .int .i64 (IntKind.i64.wrap c1)) rfl) _) rfl ?_
  refine WL_nil ?_
  refine nrm ?_
  refine WC_seq ?_
  refine WC_seq ?_
  refine WC_region ?_
  refine WL_val gd0 ((o_assign (v := .int .i64 0) rfl) _) rfl ?_
  refine WL_nil ?_
  refine nrm ?_
  refine WC_block ?_
  obtain ⟨J11, ⟨n11, h0⟩, hr11⟩ := h
  refine WC_loop (fun n ρ w' => ∃ (r8 i10 : Int), ρ 5 = .int .i64 r8 ∧ ρ 6 = .int .i64 i10 ∧ ρ 1 = .slice b_a2 b_n3 b_c4 ∧ J11 n (r8, i10) w') ⟨n11, _, _, rfl, rfl, e1, h0⟩ ?_
  rintro n11 ρ w11 ⟨r8, i10, e5_7, e6_9, e1_6, h⟩
  have h : F40_b1 b_n3 b_a2 b_c4 r8 i10 w11 (fun x0 x1 w => ∃ m, m < n11 ∧ J11 m (x0, x1) w) k := hr11 n11 (r8, i10) w11 h
  unfold F40_b1 at h
  refine WC_seq ?_
  refine WC_seq ?_
  refine WC_region ?_
  refine WL_val gd0 ((o_move (v := .int .i64 i10) (by exact e6_9)) _) rfl ?_
  refine WL_val gd0 ((o_move (v := .slice b_a2 b_n3 b_c4) (by exact e1_6)) _) rfl ?_
  refine WL_val gd0 ((o_len Try.underlying22 rfl) _) rfl ?_
  refine WL_val gd0 ((o_mul rfl rfl) _) rfl ?_
  refine WL_val gd0 ((o_lss rfl rfl) _) rfl ?_
  refine WL_nil ?_
  refine nrm ?_
  refine WC_cond (t := (decide (i10 < (IntKind.i64.wrap (8 * (b_n3 : Int)))))) rfl (fun hb13 => ?_) (fun hb13 => ?_)
  · rw [if_pos (of_decide_eq_true hb13)] at h
    refine WC_skip ?_
    refine nrm ?_
    refine WC_seq ?_
    refine WC_block ?_
    refine WC_seq ?_
    refine WC_region ?_
    refine WL_val gd0 ((o_move (v := .int .i64 r8) (by exact e5_7)) _) rfl ?_
    refine WL_val gd0 ((o_shr rfl rfl (by decide)) _) rfl ?_
    refine WL_val gd0 ((o_move (v := .slice b_a2 b_n3 b_c4) (by exact e1_6)) _) rfl ?_
    refine WL_val gd0 ((o_move (v := .int .i64 i10) (by exact e6_9)) _) rfl ?_
    refine WL_call gd0 (o_call Try.call43 (argCons rfl (argCons rfl argNil)) _) rfl (h.mono ?_)
    rintro _ w14 ⟨x15, rfl, h⟩
    refine WL_val gd0 ((o_add rfl rfl) _) rfl ?_
    refine WL_val gd0 ((fun w => o_rem rfl rfl w (by decide)) _) rfl ?_
    refine WL_val gd0 ((o_eql rfl rfl) _) rfl ?_
    refine WL_val gd0 ((o_assign (v := .bool (decide ((Int.tmod (IntKind.i64.wrap ((shr .i64 r8 15) + x15)) 2) = 1))) rfl) _) rfl ?_
    refine WL_nil ?_
    refine nrm ?_
    refine WC_seq ?_
    refine WC_region ?_
    refine WL_val gd0 ((o_move (v := .int .i64 r8) (by exact e5_7)) _) rfl ?_
    refine WL_val gd0 ((o_mul rfl rfl) _) rfl ?_
    refine WL_val gd0 ((fun w => o_rem rfl rfl w (by decide)) _) rfl ?_
    refine WL_val gd0 ((o_assign (v := .int .i64 (Int.tmod (IntKind.i64.wrap (r8 * 2)) 65536)) rfl) _) rfl ?_
    refine WL_nil ?_
    refine nrm ?_
    refine WC_seq ?_
    refine WC_region ?_
    refine WL_val gd0 ((o_move (v := .bool (decide ((Int.tmod (IntKind.i64.wrap ((shr .i64 r8 15) + x15)) 2) = 1))) rfl) _) rfl ?_
    refine WL_nil ?_
    refine nrm ?_
    refine WC_cond (t := (decide ((Int.tmod (IntKind.i64.wrap ((shr .i64 r8 15) + x15)) 2) = 1))) rfl (fun hb16 => ?_) (fun hb16 => ?_)
    · rw [if_pos (of_decide_eq_true hb16)] at h
      refine WC_region ?_
      refine WL_val gd0 ((o_move (v := .int .i64 (Int.tmod (IntKind.i64.wrap (r8 * 2)) 65536)) rfl) _) rfl ?_
      refine WL_val gd0 ((o_xor rfl rfl) _) rfl ?_
      refine WL_val gd0 ((o_assign (v := .int .i64 (bxor .i64 (Int.tmod (IntKind.i64.wrap (r8 * 2)) 65536) 4129)) rfl) _) rfl ?_
      refine WL_nil ?_
      refine nrmB ?_
      refine nrm ?_
      refine WC_region ?_
      refine WL_val gd0 ((o_move (v := .int .i64 i10) (by exact e6_9)) _) rfl ?_
      refine WL_val gd0 ((o_add rfl rfl) _) rfl ?_
      refine WL_val gd0 ((o_assign (v := .int .i64 (IntKind.i64.wrap (i10 + 1))) rfl) _) rfl ?_
      refine WL_nil ?_
      refine nrm ?_
      obtain ⟨m12, hm12, h⟩ := h
      exact ⟨m12, hm12, _, _, rfl, rfl, e1_6, h⟩
    · rw [if_neg (of_decide_eq_false hb16)] at h
      refine WC_skip ?_
      refine nrmB ?_
      refine nrm ?_
      refine WC_region ?_
      refine WL_val gd0 ((o_move (v := .int .i64 i10) (by exact e6_9)) _) rfl ?_
      refine WL_val gd0 ((o_add rfl rfl) _) rfl ?_
      refine WL_val gd0 ((o_assign (v := .int .i64 (IntKind.i64.wrap (i10 + 1))) rfl) _) rfl ?_
      refine WL_nil ?_
      refine nrm ?_
      obtain ⟨m12, hm12, h⟩ := h
      exact ⟨m12, hm12, _, _, rfl, rfl, e1_6, h⟩
  · rw [if_neg (of_decide_eq_false hb13)] at h
    refine WC_exit ?_
    refine exT ?_
    refine exT ?_
    refine exB ?_
    refine nrm ?_
    refine WC_seq ?_
    refine WC_region ?_
    refine WL_val gd0 ((o_move (v := .int .i64 r8) (by exact e5_7)) _) rfl ?_
    refine WL_val gd0 ((o_conv Try.underlying3 Try.underlying39 rfl) _) rfl ?_
    refine WL_val gd0 ((o_assign (v := .int .u16 (IntKind.u16.wrap r8)) rfl) _) rfl ?_
    refine WL_nil ?_
    refine nrm ?_
    refine WC_ret ?_
    refine rtE ?_
    exact gv1 rfl rfl h

def F41_b2 (t11 : Int) (c22 : Int) (t27 : Int) (w28 : World) (nx28 : Int → Int → World → Prop) (nx12 : Int → Int → World → Prop) : Prop :=
  if t27 < 8 then
  if (shr .u16 c22 15) = 1 then
    nx28 (bxor .u16 (shl .u16 c22 1) 4129) (IntKind.i64.wrap (t27 + 1)) w28
  else
    nx28 (shl .u16 c22 1) (IntKind.i64.wrap (t27 + 1)) w28
else
  nx12 c22 (IntKind.i64.wrap (t11 + 1)) w28
def F41_b1 (b_n3 : Nat) (b_a2 : Option Addr) (c7 : Int) (t11 : Int) (w12 : World) (nx12 : Int → Int → World → Prop) (k : Value → World → Prop) : Prop :=
  if t11 < (b_n3 : Int) then
  ∃ (p17 : Addr), b_a2 = some p17 ∧ (0 : Int) ≤ t11 ∧ t11 < (b_n3 : Int) ∧ ∃ (x19 : Int), w12.cell? (p17.add t11.toNat) = some (.int .u8 x19) ∧ LoopP (fun (s : Int × Int) w' nx' => F41_b2 t11 (s.1) (s.2) w' (fun x0 x1 w => nx' (x0, x1) w) nx12) ((bxor .u16 c7 (shl .u16 (IntKind.u16.wrap x19) 8)), 0) w12
else
  k (.int .u16 c7) w12
/-- spacecraft crc.Update16 -/
def F41 (c1 : Int) (b_a2 : Option Addr) (b_n3 : Nat) (b_c4 : Nat) (w5 : World) (k : Value → World → Prop) : Prop :=
  LoopP (fun (s : Int × Int) w' nx' => F41_b1 b_n3 b_a2 (s.1) (s.2) w' (fun x0 x1 w => nx' (x0, x1) w) k) (c1, 0) w5
set_option maxRecDepth 100000 in
set_option maxHeartbeats 2000000 in
theorem w41 (c1 : Int) (b_a2 : Option Addr) (b_n3 : Nat) (b_c4 : Nat) (w5 : World) (k : Value → World → Prop) (h : F41 c1 b_a2 b_n3 b_c4 w5 k) : Does Try.prog 41 #[.int .u16 c1, .slice b_a2 b_n3 b_c4] w5 k := by
  refine enter 32 Try.func41 rfl rfl rfl ?_
  intro ρ hρ
  have e0 := hρ 0 _ rfl
  have e1 := hρ 1 _ rfl
  unfold F41 at h
  refine WC_seq ?_
  refine WC_region ?_
  refine WL_val gd0 ((o_assign (v := .int .u16 0) rfl) _) rfl ?_
  refine WL_nil ?_
  refine nrm ?_
  refine WC_seq ?_
  refine WC_seq ?_
  refine WC_region ?_
  refine WL_val gd0 ((o_move (v := .slice b_a2 b_n3 b_c4) (by exact e1)) _) rfl ?_
  refine WL_val gd0 ((o_len Try.underlying22 rfl) _) rfl ?_
  refine WL_val gd0 ((o_move (v := .int .i64 0) rfl) _) rfl ?_
  refine WL_nil ?_
  refine nrm ?_
  refine WC_block ?_
  obtain ⟨J12, ⟨n12, h0⟩, hr12⟩ := h
  refine WC_loop (fun n ρ w' => ∃ (c7 t11 : Int), ρ 0 = .int .u16 c7 ∧ ρ 10 = .int .i64 t11 ∧ ρ 8 = .slice b_a2 b_n3 b_c4 ∧ ρ 9 = .int .i64 (b_n3 : Int) ∧ J12 n (c7, t11) w') ⟨n12, _, _, e0, rfl, rfl, rfl, h0⟩ ?_
  rintro n12 ρ w12 ⟨c7, t11, e0_6, e10_10, e8_8, e9_9, h⟩
  have h : F41_b1 b_n3 b_a2 c7 t11 w12 (fun x0 x1 w => ∃ m, m < n12 ∧ J12 m (x0, x1) w) k := hr12 n12 (c7, t11) w12 h
  unfold F41_b1 at h
  refine WC_seq ?_
  refine WC_region ?_
  refine WL_val gd0 ((o_lss (by exact e10_10) (by exact e9_9)) _) rfl ?_
  refine WL_nil ?_
  refine nrm ?_
  refine WC_seq ?_
  refine WC_cond (t := (decide (t11 < (b_n3 : Int)))) rfl (fun hb14 => ?_) (fun hb14 => ?_)
  · rw [if_pos (of_decide_eq_true hb14)] at h
    refine WC_skip ?_
    refine nrm ?_
    refine WC_seq ?_
    refine WC_block ?_
    refine WC_seq ?_
    refine WC_region ?_
    obtain ⟨p17, q18, h⟩ := h
    obtain ⟨l15, u16, h⟩ := h
    refine WL_val gd0 ((o_indexAddr1 Try.underlying22 Try.sizeOf5 (by exact (Eq.trans e8_8 (congrArg (fun z => Value.slice z b_n3 b_c4) q18))) (by exact e10_10) l15 u16) _) rfl ?_
    obtain ⟨x19, hc20, h⟩ := h
    refine WL_val gd0 (o_load Try.isAgg5 rfl hc20) rfl ?_
    refine WL_val gd0 ((o_assign (v := .int .u8 x19) rfl) _) rfl ?_
    refine WL_nil ?_
    refine nrm ?_
    refine WC_seq ?_
    refine WC_region ?_
    refine WL_val gd0 ((o_move (v := .int .u16 c7) (by exact e0_6)) _) rfl ?_
    refine WL_val gd0 ((o_move (v := .int .u8 x19) rfl) _) rfl ?_
    refine WL_val gd0 ((o_conv Try.underlying5 Try.underlying39 rfl) _) rfl ?_
    refine WL_val gd0 ((o_shl rfl rfl (by decide)) _) rfl ?_
    refine WL_val gd0 ((o_xor rfl rfl) _) rfl ?_
    refine WL_val gd0 ((o_assign (v := .int .u16 (bxor .u16 c7 (shl .u16 (IntKind.u16.wrap x19) 8))) rfl) _) rfl ?_
    refine WL_nil ?_
    refine nrm ?_
    refine WC_seq ?_
    refine WC_region ?_
    refine WL_val gd0 ((o_move (v := .int .i64 0) rfl) _) rfl ?_
    refine WL_nil ?_
    refine nrm ?_
    refine WC_block ?_
    obtain ⟨J28, ⟨n28, h0⟩, hr28⟩ := h
    refine WC_loop (fun n ρ w' => ∃ (c22 t27 : Int), ρ 0 = .int .u16 c22 ∧ ρ 19 = .int .i64 t27 ∧ ρ 8 = .slice b_a2 b_n3 b_c4 ∧ ρ 9 = .int .i64 (b_n3 : Int) ∧ ρ 10 = .int .i64 t11 ∧ J28 n (c22, t27) w') ⟨n28, _, _, rfl, rfl, e8_8, e9_9, e10_10, h0⟩ ?_
    rintro n28 ρ w28 ⟨c22, t27, e0_21, e19_26, e8_23, e9_24, e10_25, h⟩
    have h : F41_b2 t11 c22 t27 w28 (fun x0 x1 w => ∃ m, m < n28 ∧ J28 m (x0, x1) w) (fun x0 x1 w => ∃ m, m < n12 ∧ J12 m (x0, x1) w) := hr28 n28 (c22, t27) w28 h
    unfold F41_b2 at h
    refine WC_seq ?_
    refine WC_region ?_
    refine WL_val gd0 ((o_lss (by exact e19_26) rfl) _) rfl ?_
    refine WL_nil ?_
    refine nrm ?_
    refine WC_seq ?_
    refine WC_cond (t := (decide (t27 < 8))) rfl (fun hb30 => ?_) (fun hb30 => ?_)
    · rw [if_pos (of_decide_eq_true hb30)] at h
      refine WC_skip ?_
      refine nrm ?_
      refine WC_seq ?_
      refine WC_block ?_
      refine WC_seq ?_
      refine WC_region ?_
      refine WL_val gd0 ((o_move (v := .int .u16 c22) (by exact e0_21)) _) rfl ?_
      refine WL_val gd0 ((o_shr rfl rfl (by decide)) _) rfl ?_
      refine WL_val gd0 ((o_assign (v := .int .u16 (shr .u16 c22 15)) rfl) _) rfl ?_
      refine WL_nil ?_
      refine nrm ?_
      refine WC_seq ?_
      refine WC_region ?_
      refine WL_val gd0 ((o_move (v := .int .u16 c22) (by exact e0_21)) _) rfl ?_
      refine WL_val gd0 ((o_shl rfl rfl (by decide)) _) rfl ?_
      refine WL_val gd0 ((o_assign (v := .int .u16 (shl .u16 c22 1)) rfl) _) rfl ?_
      refine WL_nil ?_
      refine nrm ?_
      refine WC_seq ?_
      refine WC_region ?_
      refine WL_val gd0 ((o_move (v := .int .u16 (shr .u16 c22 15)) rfl) _) rfl ?_
      refine WL_val gd0 ((o_eql rfl rfl) _) rfl ?_
      refine WL_nil ?_
      refine nrm ?_
      refine WC_cond (t := (decide ((shr .u16 c22 15) = 1))) rfl (fun hb31 => ?_) (fun hb31 => ?_)
      · rw [if_pos (of_decide_eq_true hb31)] at h
        refine WC_region ?_
        refine WL_val gd0 ((o_move (v := .int .u16 (shl .u16 c22 1)) rfl) _) rfl ?_
        refine WL_val gd0 ((o_xor rfl rfl) _) rfl ?_
        refine WL_val gd0 ((o_assign (v := .int .u16 (bxor .u16 (shl .u16 c22 1) 4129)) rfl) _) rfl ?_
        refine WL_nil ?_
        refine nrmB ?_
        refine nrm ?_
        refine WC_region ?_
        refine WL_val gd0 ((o_add (by exact e19_26) rfl) _) rfl ?_
        refine WL_val gd0 ((o_move (v := .int .i64 (IntKind.i64.wrap (t27 + 1))) rfl) _) rfl ?_
        refine WL_nil ?_
        refine nrm ?_
        obtain ⟨m29, hm29, h⟩ := h
        exact ⟨m29, hm29, _, _, rfl, rfl, e8_23, e9_24, e10_25, h⟩
      · rw [if_neg (of_decide_eq_false hb31)] at h
        refine WC_skip ?_
        refine nrmB ?_
        refine nrm ?_
        refine WC_region ?_
        refine WL_val gd0 ((o_add (by exact e19_26) rfl) _) rfl ?_
        refine WL_val gd0 ((o_move (v := .int .i64 (IntKind.i64.wrap (t27 + 1))) rfl) _) rfl ?_
        refine WL_nil ?_
        refine nrm ?_
        obtain ⟨m29, hm29, h⟩ := h
        exact ⟨m29, hm29, _, _, rfl, rfl, e8_23, e9_24, e10_25, h⟩
    · rw [if_neg (of_decide_eq_false hb30)] at h
      refine WC_exit ?_
      refine exT ?_
      refine exT ?_
      refine exB ?_
      refine nrmB ?_
      refine nrm ?_
      refine WC_region ?_
      refine WL_val gd0 ((o_add (by exact e10_25) rfl) _) rfl ?_
      refine WL_val gd0 ((o_move (v := .int .i64 (IntKind.i64.wrap (t11 + 1))) rfl) _) rfl ?_
      refine WL_nil ?_
      refine nrm ?_
      obtain ⟨m13, hm13, h⟩ := h
      exact ⟨m13, hm13, _, _, e0_21, rfl, e8_23, e9_24, h⟩
  · rw [if_neg (of_decide_eq_false hb14)] at h
    refine WC_exit ?_
    refine exT ?_
    refine exT ?_
    refine exB ?_
    refine nrm ?_
    refine WC_seq ?_
    refine WC_region ?_
    refine WL_val gd0 ((o_move (v := .int .u16 c7) (by exact e0_6)) _) rfl ?_
    refine WL_val gd0 ((o_assign (v := .int .u16 c7) rfl) _) rfl ?_
    refine WL_nil ?_
    refine nrm ?_
    refine WC_ret ?_
    refine rtE ?_
    exact gv1 rfl rfl h

/-- (*spacecraft bits.Writer).ok -/
def F42 (w1 : Option Addr) (w2 : World) (k : Value → World → Prop) : Prop :=
  if (!(w1).isNone) = true then
  ∃ (p4 : Addr), w1 = some p4 ∧ ∃ (x6 : Bool), w2.cell? p4 = some (.bool x6) ∧ k (.bool x6) w2
else
  k (.bool false) w2
set_option maxRecDepth 100000 in
set_option maxHeartbeats 2000000 in
theorem w42 (w1 : Option Addr) (w2 : World) (k : Value → World → Prop) (h : F42 w1 w2 k) : Does Try.prog 42 #[.pointer w1] w2 k := by
  refine enter 11 Try.func42 rfl rfl rfl ?_
  intro ρ hρ
  have e0 := hρ 0 _ rfl
  unfold F42 at h
  refine WC_seq ?_
  refine WC_region ?_
  refine WL_val gd0 ((o_assign (v := .bool false) rfl) _) rfl ?_
  refine WL_nil ?_
  refine nrm ?_
  refine WC_seq ?_
  refine WC_region ?_
  refine WL_val gd0 ((o_move (v := .pointer w1) (by exact e0)) _) rfl ?_
  refine WL_val gd0 ((o_neqPtrNil Try.underlying51 rfl rfl) _) rfl ?_
  refine WL_val gd0 ((o_move (v := .bool (!(w1).isNone)) rfl) _) rfl ?_
  refine bsplit (!(w1).isNone) (fun hb3 => ?_) (fun hb3 => ?_)
  · rw [if_pos hb3] at h
    refine WL_val (gdY (b := (!(w1).isNone)) 5 rfl rfl hb3) ((o_move (v := .pointer w1) (by exact e0)) _) rfl ?_
    obtain ⟨p4, q5, h⟩ := h
    refine WL_val (gdY (b := (!(w1).isNone)) 5 rfl rfl hb3) ((o_nilCheck (by exact (congrArg Value.pointer q5))) _) rfl ?_
    refine WL_val (gdY (b := (!(w1).isNone)) 5 rfl rfl hb3) ((o_fieldAddr0 Try.underlying61 rfl Try.sizeOf4 rfl rfl rfl) _) rfl ?_
    obtain ⟨x6, hc7, h⟩ := h
    refine WL_val (gdY (b := (!(w1).isNone)) 5 rfl rfl hb3) (o_load Try.isAgg4 rfl hc7) rfl ?_
    refine WL_val gd0 ((o_pickT (v := .bool x6) rfl hb3 rfl) _) rfl ?_
    refine WL_val gd0 ((o_assign (v := .bool x6) rfl) _) rfl ?_
    refine WL_nil ?_
    refine nrm ?_
    refine WC_ret ?_
    refine rtE ?_
    exact gv1 rfl rfl h
  · rw [if_neg (neT hb3)] at h
    refine WL_skip (gdN (b := (!(w1).isNone)) 5 rfl rfl hb3) rfl ?_
    refine WL_skip (gdN (b := (!(w1).isNone)) 5 rfl rfl hb3) rfl ?_
    refine WL_skip (gdN (b := (!(w1).isNone)) 5 rfl rfl hb3) rfl ?_
    refine WL_skip (gdN (b := (!(w1).isNone)) 5 rfl rfl hb3) rfl ?_
    refine WL_val gd0 ((o_pickF (v := .bool false) rfl hb3 rfl) _) rfl ?_
    refine WL_val gd0 ((o_assign (v := .bool false) rfl) _) rfl ?_
    refine WL_nil ?_
    refine nrm ?_
    refine WC_ret ?_
    refine rtE ?_
    exact gv1 rfl rfl h

/-- spacecraft spacecraftref01.bit -/
def F43 (b_a1 : Option Addr) (b_n2 : Nat) (b_c3 : Nat) (i4 : Int) (w5 : World) (k : Value → World → Prop) : Prop :=
  ∃ (p8 : Addr), b_a1 = some p8 ∧ (0 : Int) ≤ IntKind.i64.wrap (Int.tdiv i4 8) ∧ IntKind.i64.wrap (Int.tdiv i4 8) < (b_n2 : Int) ∧ ∃ (x10 : Int), w5.cell? (p8.add ((IntKind.i64.wrap (Int.tdiv i4 8)).toNat)) = some (.int .u8 x10) ∧ (0 : Int) ≤ IntKind.i64.wrap (7 - (Int.tmod i4 8)) ∧ k (.int .i64 (Int.tmod (shr .i64 (IntKind.i64.wrap x10) (IntKind.i64.wrap (7 - (Int.tmod i4 8)))) 2)) w5
set_option maxRecDepth 100000 in
set_option maxHeartbeats 2000000 in
theorem w43 (b_a1 : Option Addr) (b_n2 : Nat) (b_c3 : Nat) (i4 : Int) (w5 : World) (k : Value → World → Prop) (h : F43 b_a1 b_n2 b_c3 i4 w5 k) : Does Try.prog 43 #[.slice b_a1 b_n2 b_c3, .int .i64 i4] w5 k := by
  refine enter 16 Try.func43 rfl rfl rfl ?_
  intro ρ hρ
  have e0 := hρ 0 _ rfl
  have e1 := hρ 1 _ rfl
  unfold F43 at h
  refine WC_seq ?_
  refine WC_region ?_
  refine WL_val gd0 ((o_assign (v := .int .i64 0) rfl) _) rfl ?_
  refine WL_nil ?_
  refine nrm ?_
  refine WC_seq ?_
  refine WC_region ?_
  refine WL_val gd0 ((o_move (v := .slice b_a1 b_n2 b_c3) (by exact e0)) _) rfl ?_
  refine WL_val gd0 ((o_move (v := .int .i64 i4) (by exact e1)) _) rfl ?_
  refine WL_val gd0 ((fun w => o_quo rfl rfl w (by decide)) _) rfl ?_
  obtain ⟨p8, q9, h⟩ := h
  obtain ⟨l6, u7, h⟩ := h
  refine WL_val gd0 ((o_indexAddr1 Try.underlying22 Try.sizeOf5 (by exact (congrArg (fun z => Value.slice z b_n2 b_c3) q9)) rfl l6 u7) _) rfl ?_
  obtain ⟨x10, hc11, h⟩ := h
  refine WL_val gd0 (o_load Try.isAgg5 rfl hc11) rfl ?_
  refine WL_val gd0 ((o_conv Try.underlying5 Try.underlying3 rfl) _) rfl ?_
  refine WL_val gd0 ((o_move (v := .int .i64 i4) (by exact e1)) _) rfl ?_
  refine WL_val gd0 ((fun w => o_rem rfl rfl w (by decide)) _) rfl ?_
  refine WL_val gd0 ((o_sub rfl rfl) _) rfl ?_
  obtain ⟨c12, h⟩ := h
  refine WL_val gd0 ((o_shr rfl rfl c12) _) rfl ?_
  refine WL_val gd0 ((fun w => o_rem rfl rfl w (by decide)) _) rfl ?_
  refine WL_val gd0 ((o_assign (v := .int .i64 (Int.tmod (shr .i64 (IntKind.i64.wrap x10) (IntKind.i64.wrap (7 - (Int.tmod i4 8)))) 2)) rfl) _) rfl ?_
  refine WL_nil ?_
  refine nrm ?_
  refine WC_ret ?_
  refine rtE ?_
  exact gv1 rfl rfl h


end Go.Proofs.Ytdbckjadafpenaa
