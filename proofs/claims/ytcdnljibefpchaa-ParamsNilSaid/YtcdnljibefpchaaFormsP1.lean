/-
  The forms of the functions, and their walks: written by a program of this claim (gen.py) off the elaborated translation.
-/
import Derived.Test.YtcdnljibefpchaaProg
import Derived.Test.YtcdnljibefpchaaBase
import Derived.KernelRfl
import Derived.Test.YtcdnljibefpchaaFormsP0
namespace Go.Proofs.Ytcdnljibefpchaa
open Go Go.Sh Go.Proofs
set_option linter.unusedVariables false
def F11_j4 (p75 : Addr) (out_a48 : Option Addr) (out_n49 : Nat) (out_c50 : Nat) (n85 : Int) (i54 : Int) (v116 : Int) (w117 : World) (nx55 : Option Addr → Nat → Nat → Int → Int → World → Prop) : Prop :=
  ∃ (x118 : Int), w117.cell? p75 = some (.int .i64 x118) ∧ New w117 40 [.int .i64 x118, .int .i64 v116] (fun p120 w121 => ∃ (b_a122 : Option Addr) (b_n123 b_c124 : Nat) (w125 : World), (Builtin.append_ #[26, 26] 26 #[.slice out_a48 out_n49 out_c50, .slice (some p120) 1 1]).run Try.prog w121 = .ok (.slice b_a122 b_n123 b_c124) w125 ∧ nx55 b_a122 b_n123 b_c124 n85 (IntKind.i64.wrap (i54 + 1)) w125)
def F11_j5 (p75 : Addr) (out_a48 : Option Addr) (out_n49 : Nat) (out_c50 : Nat) (n85 : Int) (i54 : Int) (v89 : Int) (t137 : Bool) (w138 : World) (nx55 : Option Addr → Nat → Nat → Int → Int → World → Prop) : Prop :=
  if t137 = true then
  ∃ (x140 : Int), w138.cell? (p75.add 1) = some (.int .i64 x140) ∧ Does Try.prog 33 #[.int .i64 x140] w138 (fun v w142 => ∃ (x143 : Int), v = .int .i64 x143 ∧ F11_j4 p75 out_a48 out_n49 out_c50 n85 i54 (IntKind.i64.wrap (v89 - x143)) w142 nx55)
else
  F11_j4 p75 out_a48 out_n49 out_c50 n85 i54 v89 w138 nx55
def F11_b3 (p75 : Addr) (b_a7 : Option Addr) (b_n8 : Nat) (out_a48 : Option Addr) (out_n49 : Nat) (out_c50 : Nat) (i54 : Int) (n85 : Int) (v89 : Int) (k91 : Int) (w92 : World) (nx92 : Int → Int → Int → World → Prop) (nx55 : Option Addr → Nat → Nat → Int → Int → World → Prop) : Prop :=
  ∃ (x94 : Int), w92.cell? (p75.add 1) = some (.int .i64 x94) ∧ if k91 < x94 then
  ∃ (p99 : Addr), b_a7 = some p99 ∧ (0 : Int) ≤ IntKind.i64.wrap (Int.tdiv n85 8) ∧ IntKind.i64.wrap (Int.tdiv n85 8) < (b_n8 : Int) ∧ ∃ (x101 : Int), w92.drew.cell? (p99.add ((IntKind.i64.wrap (Int.tdiv n85 8)).toNat)) = some (.int .u8 x101) ∧ Does Try.prog 33 #[.int .i64 (IntKind.i64.wrap (7 - (Int.tmod n85 8)))] w92.drew (fun v w103 => ∃ (x104 : Int), v = .int .i64 x104 ∧ w103.cell? (p99.add ((IntKind.i64.wrap (Int.tdiv n85 8)).toNat)) = some (.int .u8 x101) ∧ x104 ≠ 0 ∧ nx92 (IntKind.i64.wrap (n85 + 1)) (IntKind.i64.wrap ((IntKind.i64.wrap (2 * v89)) + (Int.tmod (IntKind.i64.wrap (Int.tdiv (IntKind.i64.wrap x101) x104)) 2))) (IntKind.i64.wrap (k91 + 1)) w103)
else
  ∃ (x144 : Bool), w92.cell? (p75.add 2) = some (.bool x144) ∧ if x144 = true then
    ∃ (x147 : Int), w92.cell? (p75.add 1) = some (.int .i64 x147) ∧ Does Try.prog 33 #[.int .i64 (IntKind.i64.wrap (x147 - 1))] w92 (fun v w149 => ∃ (x150 : Int), v = .int .i64 x150 ∧ F11_j5 p75 out_a48 out_n49 out_c50 n85 i54 v89 (decide (x150 ≤ v89)) w149 nx55)
  else
    F11_j5 p75 out_a48 out_n49 out_c50 n85 i54 v89 false w92 nx55
def F11_b6 (total21 : Int) (b_a7 : Option Addr) (b_n8 : Nat) (out_a48 : Option Addr) (out_n49 : Nat) (out_c50 : Nat) (n155 : Int) (w156 : World) (k : Value → World → Prop) (nx156 : Int → World → Prop) : Prop :=
  if n155 < (IntKind.i64.wrap (8 * (IntKind.i64.wrap (Int.tdiv (IntKind.i64.wrap (total21 + 7)) 8)))) then
  ∃ (p161 : Addr), b_a7 = some p161 ∧ (0 : Int) ≤ IntKind.i64.wrap (Int.tdiv n155 8) ∧ IntKind.i64.wrap (Int.tdiv n155 8) < (b_n8 : Int) ∧ ∃ (x163 : Int), w156.drew.cell? (p161.add ((IntKind.i64.wrap (Int.tdiv n155 8)).toNat)) = some (.int .u8 x163) ∧ Does Try.prog 33 #[.int .i64 (IntKind.i64.wrap (7 - (Int.tmod n155 8)))] w156.drew (fun v w165 => ∃ (x166 : Int), v = .int .i64 x166 ∧ w165.cell? (p161.add ((IntKind.i64.wrap (Int.tdiv n155 8)).toNat)) = some (.int .u8 x163) ∧ x166 ≠ 0 ∧ if (Int.tmod (IntKind.i64.wrap (Int.tdiv (IntKind.i64.wrap x163) x166)) 2) = 1 then
    k (.tuple #[.slice none 0 0, .int .i64 4]) w165
  else
    nx156 (IntKind.i64.wrap (n155 + 1)) w165)
else
  k (.tuple #[.slice out_a48 out_n49 out_c50, .int .i64 0]) w156
def F11_b2 (ids_n5 : Nat) (ids_a4 : Option Addr) (l_a1 : Option Addr) (l_n2 : Nat) (l_c3 : Nat) (b_a7 : Option Addr) (b_n8 : Nat) (total21 : Int) (out_a48 : Option Addr) (out_n49 : Nat) (out_c50 : Nat) (n52 : Int) (i54 : Int) (w55 : World) (nx55 : Option Addr → Nat → Nat → Int → Int → World → Prop) (k : Value → World → Prop) : Prop :=
  if i54 < (ids_n5 : Int) then
  ∃ (p60 : Addr), ids_a4 = some p60 ∧ (0 : Int) ≤ i54 ∧ i54 < (ids_n5 : Int) ∧ ∃ (x62 : Int), w55.cell? (p60.add i54.toNat) = some (.int .i64 x62) ∧ Does Try.prog 32 #[.slice l_a1 l_n2 l_c3, .int .i64 x62] w55 (fun v w64 => ∃ (x65 : Int), v = .int .i64 x65 ∧ ∃ (p68 : Addr), l_a1 = some p68 ∧ (0 : Int) ≤ x65 ∧ x65 < (l_n2 : Int) ∧ ∃ (x70 x71 : Int) (x72 : Bool) (x73 : Int), Cells w64 (p68.add (x65.toNat * 4)) 0 [.int .i64 x70, .int .i64 x71, .bool x72, .int .i64 x73] ∧ New w64 43 [.int .i64 0, .int .i64 0, .bool false, .int .i64 0] (fun p75 w76 => PutAll w76 p75 [.int .i64 x70, .int .i64 x71, .bool x72, .int .i64 x73] (fun w77 => LoopP (fun (s : Int × Int × Int) w' nx' => F11_b3 p75 b_a7 b_n8 out_a48 out_n49 out_c50 i54 (s.1) (s.2.1) (s.2.2) w' (fun x0 x1 x2 w => nx' (x0, x1, x2) w) nx55) (n52, 0, 0) w77)))
else
  LoopP (fun (s : Int) w' nx' => F11_b6 total21 b_a7 b_n8 out_a48 out_n49 out_c50 s w' k (fun x0 w => nx' x0 w)) n52 w55
def F11_b1 (ids_n5 : Nat) (ids_a4 : Option Addr) (l_a1 : Option Addr) (l_n2 : Nat) (l_c3 : Nat) (b_n8 : Nat) (b_a7 : Option Addr) (total21 : Int) (i23 : Int) (w24 : World) (nx24 : Int → Int → World → Prop) (k : Value → World → Prop) : Prop :=
  if i23 < (ids_n5 : Int) then
  ∃ (p29 : Addr), ids_a4 = some p29 ∧ (0 : Int) ≤ i23 ∧ i23 < (ids_n5 : Int) ∧ ∃ (x31 : Int), w24.cell? (p29.add i23.toNat) = some (.int .i64 x31) ∧ Does Try.prog 32 #[.slice l_a1 l_n2 l_c3, .int .i64 x31] w24 (fun v w33 => ∃ (x34 : Int), v = .int .i64 x34 ∧ ∃ (p37 : Addr), l_a1 = some p37 ∧ (0 : Int) ≤ x34 ∧ x34 < (l_n2 : Int) ∧ ∃ (x39 : Int), w33.cell? ((p37.add (x34.toNat * 4)).add 1) = some (.int .i64 x39) ∧ nx24 (IntKind.i64.wrap (total21 + x39)) (IntKind.i64.wrap (i23 + 1)) w33)
else
  if (b_n8 : Int) < (IntKind.i64.wrap (Int.tdiv (IntKind.i64.wrap (total21 + 7)) 8)) then
    k (.tuple #[.slice none 0 0, .int .i64 3]) w24
  else
    if (IntKind.i64.wrap (Int.tdiv (IntKind.i64.wrap (total21 + 7)) 8)) < (b_n8 : Int) then
      k (.tuple #[.slice none 0 0, .int .i64 6]) w24
    else
      LoopP (fun (s : Option Addr × Nat × Nat × Int × Int) w' nx' => F11_b2 ids_n5 ids_a4 l_a1 l_n2 l_c3 b_a7 b_n8 total21 (s.1) (s.2.1) (s.2.2.1) (s.2.2.2.1) (s.2.2.2.2) w' (fun x0 x1 x2 x3 x4 w => nx' (x0, x1, x2, x3, x4) w) k) (none, 0, 0, 0, 0) w24
/-- spacecraft spacecraftref33.Unpack -/
def F11 (l_a1 : Option Addr) (l_n2 : Nat) (l_c3 : Nat) (ids_a4 : Option Addr) (ids_n5 : Nat) (ids_c6 : Nat) (b_a7 : Option Addr) (b_n8 : Nat) (b_c9 : Nat) (w10 : World) (k : Value → World → Prop) : Prop :=
  Does Try.prog 30 #[.slice l_a1 l_n2 l_c3] w10 (fun v w11 => ∃ (e_12 : Int), v = .int .i64 e_12 ∧ if e_12 ≠ 0 then
  k (.tuple #[.slice none 0 0, .int .i64 e_12]) w11
else
  Does Try.prog 31 #[.slice l_a1 l_n2 l_c3, .slice ids_a4 ids_n5 ids_c6] w11 (fun v w14 => ∃ (e_15 : Int), v = .int .i64 e_15 ∧ if e_15 ≠ 0 then
    k (.tuple #[.slice none 0 0, .int .i64 e_15]) w14
  else
    LoopP (fun (s : Int × Int) w' nx' => F11_b1 ids_n5 ids_a4 l_a1 l_n2 l_c3 b_n8 b_a7 (s.1) (s.2) w' (fun x0 x1 w => nx' (x0, x1) w) k) (0, 0) w14))
set_option maxRecDepth 100000 in
set_option maxHeartbeats 2000000 in
theorem w11 (l_a1 : Option Addr) (l_n2 : Nat) (l_c3 : Nat) (ids_a4 : Option Addr) (ids_n5 : Nat) (ids_c6 : Nat) (b_a7 : Option Addr) (b_n8 : Nat) (b_c9 : Nat) (w10 : World) (k : Value → World → Prop) (h : F11 l_a1 l_n2 l_c3 ids_a4 ids_n5 ids_c6 b_a7 b_n8 b_c9 w10 k) : Does Try.prog 11 #[.slice l_a1 l_n2 l_c3, .slice ids_a4 ids_n5 ids_c6, .slice b_a7 b_n8 b_c9] w10 k := by
  refine enter 139 Try.func11 rfl rfl rfl ?_
  intro ρ hρ
  have e0 := hρ 0 _ rfl
  have e1 := hρ 1 _ rfl
  have e2 := hρ 2 _ rfl
  unfold F11 at h
  refine WC_seq ?_
  refine WC_region ?_
  refine WL_val gd0 ((o_assign (v := .slice none 0 0) rfl) _) rfl ?_
  refine WL_val gd0 ((o_assign (v := .int .i64 0) rfl) _) rfl ?_
  refine WL_nil ?_
  refine nrm ?_
  refine WC_seq ?_
  refine WC_seq ?_
  refine WC_region ?_
  refine WL_val gd0 ((o_move (v := .slice l_a1 l_n2 l_c3) (by exact e0)) _) rfl ?_
  refine WL_call gd0 (o_call Try.call30 (argCons rfl argNil) _) rfl (h.mono ?_)
  rintro _ w11 ⟨e_12, rfl, h⟩
  refine WL_val gd0 ((o_assign (v := .int .i64 e_12) rfl) _) rfl ?_
  refine WL_nil ?_
  refine nrm ?_
  refine WC_seq ?_
  refine WC_region ?_
  refine WL_val gd0 ((o_move (v := .int .i64 e_12) rfl) _) rfl ?_
  refine WL_val gd0 ((o_neq rfl rfl) _) rfl ?_
  refine WL_nil ?_
  refine nrm ?_
  refine WC_cond (t := (decide (e_12 ≠ 0))) rfl (fun hb13 => ?_) (fun hb13 => ?_)
  · rw [if_pos (of_decide_eq_true hb13)] at h
    refine WC_seq ?_
    refine WC_region ?_
    refine WL_val gd0 ((o_move (v := .int .i64 e_12) rfl) _) rfl ?_
    refine WL_val gd0 ((o_assign (v := .slice none 0 0) rfl) _) rfl ?_
    refine WL_val gd0 ((o_assign (v := .int .i64 e_12) rfl) _) rfl ?_
    refine WL_nil ?_
    refine nrm ?_
    refine WC_ret ?_
    refine rtT ?_
    refine rtE ?_
    exact gv2 rfl rfl rfl h
  · rw [if_neg (of_decide_eq_false hb13)] at h
    refine WC_skip ?_
    refine nrm ?_
    refine WC_seq ?_
    refine WC_seq ?_
    refine WC_region ?_
    refine WL_val gd0 ((o_move (v := .slice l_a1 l_n2 l_c3) (by exact e0)) _) rfl ?_
    refine WL_val gd0 ((o_move (v := .slice ids_a4 ids_n5 ids_c6) (by exact e1)) _) rfl ?_
    refine WL_call gd0 (o_call Try.call31 (argCons rfl (argCons rfl argNil)) _) rfl (h.mono ?_)
    rintro _ w14 ⟨e_15, rfl, h⟩
    refine WL_val gd0 ((o_assign (v := .int .i64 e_15) rfl) _) rfl ?_
    refine WL_nil ?_
    refine nrm ?_
    refine WC_seq ?_
    refine WC_region ?_
    refine WL_val gd0 ((o_move (v := .int .i64 e_15) rfl) _) rfl ?_
    refine WL_val gd0 ((o_neq rfl rfl) _) rfl ?_
    refine WL_nil ?_
    refine nrm ?_
    refine WC_cond (t := (decide (e_15 ≠ 0))) rfl (fun hb16 => ?_) (fun hb16 => ?_)
    · rw [if_pos (of_decide_eq_true hb16)] at h
      refine WC_seq ?_
      refine WC_region ?_
      refine WL_val gd0 ((o_move (v := .int .i64 e_15) rfl) _) rfl ?_
      refine WL_val gd0 ((o_assign (v := .slice none 0 0) rfl) _) rfl ?_
      refine WL_val gd0 ((o_assign (v := .int .i64 e_15) rfl) _) rfl ?_
      refine WL_nil ?_
      refine nrm ?_
      refine WC_ret ?_
      refine rtT ?_
      refine rtE ?_
      exact gv2 rfl rfl rfl h
    · rw [if_neg (of_decide_eq_false hb16)] at h
      refine WC_skip ?_
      refine nrm ?_
      refine WC_seq ?_
      refine WC_region ?_
      refine WL_val gd0 ((o_assign (v := .int .i64 0) rfl) _) rfl ?_
      refine WL_nil ?_
      refine nrm ?_
      refine WC_seq ?_
      refine WC_seq ?_
      refine WC_region ?_
      refine WL_val gd0 ((o_assign (v := .int .i64 0) rfl) _) rfl ?_
      refine WL_nil ?_
      refine nrm ?_
      refine WC_block ?_
      obtain ⟨J24, ⟨n24, h0⟩, hr24⟩ := h
      refine WC_loop (fun n ρ w' => ∃ (total21 i23 : Int), ρ 10 = .int .i64 total21 ∧ ρ 11 = .int .i64 i23 ∧ ρ 0 = .slice l_a1 l_n2 l_c3 ∧ ρ 1 = .slice ids_a4 ids_n5 ids_c6 ∧ ρ 2 = .slice b_a7 b_n8 b_c9 ∧ J24 n (total21, i23) w') ⟨n24, _, _, rfl, rfl, e0, e1, e2, h0⟩ ?_
      rintro n24 ρ w24 ⟨total21, i23, e10_20, e11_22, e0_17, e1_18, e2_19, h⟩
      have h : F11_b1 ids_n5 ids_a4 l_a1 l_n2 l_c3 b_n8 b_a7 total21 i23 w24 (fun x0 x1 w => ∃ m, m < n24 ∧ J24 m (x0, x1) w) k := hr24 n24 (total21, i23) w24 h
      unfold F11_b1 at h
      refine WC_seq ?_
      refine WC_seq ?_
      refine WC_region ?_
      refine WL_val gd0 ((o_move (v := .int .i64 i23) (by exact e11_22)) _) rfl ?_
      refine WL_val gd0 ((o_move (v := .slice ids_a4 ids_n5 ids_c6) (by exact e1_18)) _) rfl ?_
      refine WL_val gd0 ((o_len Try.underlying23 rfl) _) rfl ?_
      refine WL_val gd0 ((o_lss rfl rfl) _) rfl ?_
      refine WL_nil ?_
      refine nrm ?_
      refine WC_cond (t := (decide (i23 < (ids_n5 : Int)))) rfl (fun hb26 => ?_) (fun hb26 => ?_)
      · rw [if_pos (of_decide_eq_true hb26)] at h
        refine WC_skip ?_
        refine nrm ?_
        refine WC_seq ?_
        refine WC_block ?_
        refine WC_region ?_
        refine WL_val gd0 ((o_move (v := .int .i64 total21) (by exact e10_20)) _) rfl ?_
        refine WL_val gd0 ((o_move (v := .slice l_a1 l_n2 l_c3) (by exact e0_17)) _) rfl ?_
        refine WL_val gd0 ((o_move (v := .slice l_a1 l_n2 l_c3) (by exact e0_17)) _) rfl ?_
        refine WL_val gd0 ((o_move (v := .slice ids_a4 ids_n5 ids_c6) (by exact e1_18)) _) rfl ?_
        refine WL_val gd0 ((o_move (v := .int .i64 i23) (by exact e11_22)) _) rfl ?_
        obtain ⟨p29, q30, h⟩ := h
        obtain ⟨l27, u28, h⟩ := h
        refine WL_val gd0 ((o_indexAddr1 Try.underlying23 Try.sizeOf3 (by exact (congrArg (fun z => Value.slice z ids_n5 ids_c6) q30)) rfl l27 u28) _) rfl ?_
        obtain ⟨x31, hc32, h⟩ := h
        refine WL_val gd0 (o_load Try.isAgg3 rfl hc32) rfl ?_
        refine WL_call gd0 (o_call Try.call32 (argCons rfl (argCons rfl argNil)) _) rfl (h.mono ?_)
        rintro _ w33 ⟨x34, rfl, h⟩
        obtain ⟨p37, q38, h⟩ := h
        obtain ⟨l35, u36, h⟩ := h
        refine WL_val gd0 ((o_indexAddr Try.underlying22 Try.sizeOf43 (by exact (congrArg (fun z => Value.slice z l_n2 l_c3) q38)) rfl l35 u36) _) rfl ?_
        refine WL_val gd0 ((o_fieldAddr 1 Try.underlying43 rfl Try.sizeOf3 rfl rfl rfl) _) rfl ?_
        obtain ⟨x39, hc40, h⟩ := h
        refine WL_val gd0 (o_load Try.isAgg3 rfl hc40) rfl ?_
        refine WL_val gd0 ((o_add rfl rfl) _) rfl ?_
        refine WL_val gd0 ((o_assign (v := .int .i64 (IntKind.i64.wrap (total21 + x39))) rfl) _) rfl ?_
        refine WL_nil ?_
        refine nrmB ?_
        refine nrm ?_
        refine WC_region ?_
        refine WL_val gd0 ((o_move (v := .int .i64 i23) (by exact e11_22)) _) rfl ?_
        refine WL_val gd0 ((o_add rfl rfl) _) rfl ?_
        refine WL_val gd0 ((o_assign (v := .int .i64 (IntKind.i64.wrap (i23 + 1))) rfl) _) rfl ?_
        refine WL_nil ?_
        refine nrm ?_
        obtain ⟨m25, hm25, h⟩ := h
        exact ⟨m25, hm25, _, _, rfl, rfl, e0_17, e1_18, e2_19, h⟩
      · rw [if_neg (of_decide_eq_false hb26)] at h
        refine WC_exit ?_
        refine exT ?_
        refine exT ?_
        refine exB ?_
        refine nrm ?_
        refine WC_seq ?_
        refine WC_region ?_
        refine WL_val gd0 ((o_move (v := .int .i64 total21) (by exact e10_20)) _) rfl ?_
        refine WL_val gd0 ((o_add rfl rfl) _) rfl ?_
        refine WL_val gd0 ((fun w => o_quo rfl rfl w (by decide)) _) rfl ?_
        refine WL_val gd0 ((o_assign (v := .int .i64 (IntKind.i64.wrap (Int.tdiv (IntKind.i64.wrap (total21 + 7)) 8))) rfl) _) rfl ?_
        refine WL_nil ?_
        refine nrm ?_
        refine WC_seq ?_
        refine WC_seq ?_
        refine WC_region ?_
        refine WL_val gd0 ((o_move (v := .slice b_a7 b_n8 b_c9) (by exact e2_19)) _) rfl ?_
        refine WL_val gd0 ((o_len Try.underlying24 rfl) _) rfl ?_
        refine WL_val gd0 ((o_move (v := .int .i64 (IntKind.i64.wrap (Int.tdiv (IntKind.i64.wrap (total21 + 7)) 8))) rfl) _) rfl ?_
        refine WL_val gd0 ((o_lss rfl rfl) _) rfl ?_
        refine WL_nil ?_
        refine nrm ?_
        refine WC_cond (t := (decide ((b_n8 : Int) < (IntKind.i64.wrap (Int.tdiv (IntKind.i64.wrap (total21 + 7)) 8))))) rfl (fun hb41 => ?_) (fun hb41 => ?_)
        · rw [if_pos (of_decide_eq_true hb41)] at h
          refine WC_seq ?_
          refine WC_region ?_
          refine WL_val gd0 ((o_assign (v := .slice none 0 0) rfl) _) rfl ?_
          refine WL_val gd0 ((o_assign (v := .int .i64 3) rfl) _) rfl ?_
          refine WL_nil ?_
          refine nrm ?_
          refine WC_ret ?_
          refine rtT ?_
          refine rtE ?_
          exact gv2 rfl rfl rfl h
        · rw [if_neg (of_decide_eq_false hb41)] at h
          refine WC_skip ?_
          refine nrm ?_
          refine WC_seq ?_
          refine WC_seq ?_
          refine WC_region ?_
          refine WL_val gd0 ((o_move (v := .slice b_a7 b_n8 b_c9) (by exact e2_19)) _) rfl ?_
          refine WL_val gd0 ((o_len Try.underlying24 rfl) _) rfl ?_
          refine WL_val gd0 ((o_move (v := .int .i64 (IntKind.i64.wrap (Int.tdiv (IntKind.i64.wrap (total21 + 7)) 8))) rfl) _) rfl ?_
          refine WL_val gd0 ((o_gtr rfl rfl) _) rfl ?_
          refine WL_nil ?_
          refine nrm ?_
          refine WC_cond (t := (decide ((IntKind.i64.wrap (Int.tdiv (IntKind.i64.wrap (total21 + 7)) 8)) < (b_n8 : Int)))) rfl (fun hb42 => ?_) (fun hb42 => ?_)
          · rw [if_pos (of_decide_eq_true hb42)] at h
            refine WC_seq ?_
            refine WC_region ?_
            refine WL_val gd0 ((o_assign (v := .slice none 0 0) rfl) _) rfl ?_
            refine WL_val gd0 ((o_assign (v := .int .i64 6) rfl) _) rfl ?_
            refine WL_nil ?_
            refine nrm ?_
            refine WC_ret ?_
            refine rtT ?_
            refine rtE ?_
            exact gv2 rfl rfl rfl h
          · rw [if_neg (of_decide_eq_false hb42)] at h
            refine WC_skip ?_
            refine nrm ?_
            refine WC_seq ?_
            refine WC_region ?_
            refine WL_val gd0 ((o_assign (v := .slice none 0 0) rfl) _) rfl ?_
            refine WL_nil ?_
            refine nrm ?_
            refine WC_seq ?_
            refine WC_region ?_
            refine WL_val gd0 ((o_assign (v := .int .i64 0) rfl) _) rfl ?_
            refine WL_nil ?_
            refine nrm ?_
            refine WC_seq ?_
            refine WC_seq ?_
            refine WC_region ?_
            refine WL_val gd0 ((o_assign (v := .int .i64 0) rfl) _) rfl ?_
            refine WL_nil ?_
            refine nrm ?_
            refine WC_block ?_
            obtain ⟨J55, ⟨n55, h0⟩, hr55⟩ := h
            refine WC_loop (fun n ρ w' => ∃ (out_a48 : Option Addr) (out_n49 out_c50 : Nat) (n52 i54 : Int), ρ 13 = .slice out_a48 out_n49 out_c50 ∧ ρ 14 = .int .i64 n52 ∧ ρ 15 = .int .i64 i54 ∧ ρ 0 = .slice l_a1 l_n2 l_c3 ∧ ρ 1 = .slice ids_a4 ids_n5 ids_c6 ∧ ρ 2 = .slice b_a7 b_n8 b_c9 ∧ ρ 12 = .int .i64 (IntKind.i64.wrap (Int.tdiv (IntKind.i64.wrap (total21 + 7)) 8)) ∧ J55 n (out_a48, out_n49, out_c50, n52, i54) w') ⟨n55, _, _, _, _, _, rfl, rfl, rfl, e0_17, e1_18, e2_19, rfl, h0⟩ ?_
            rintro n55 ρ w55 ⟨out_a48, out_n49, out_c50, n52, i54, e13_47, e14_51, e15_53, e0_43, e1_44, e2_45, e12_46, h⟩
            have h : F11_b2 ids_n5 ids_a4 l_a1 l_n2 l_c3 b_a7 b_n8 total21 out_a48 out_n49 out_c50 n52 i54 w55 (fun x0 x1 x2 x3 x4 w => ∃ m, m < n55 ∧ J55 m (x0, x1, x2, x3, x4) w) k := hr55 n55 (out_a48, out_n49, out_c50, n52, i54) w55 h
            unfold F11_b2 at h
            refine WC_seq ?_
            refine WC_seq ?_
            refine WC_region ?_
            refine WL_val gd0 ((o_move (v := .int .i64 i54) (by exact e15_53)) _) rfl ?_
            refine WL_val gd0 ((o_move (v := .slice ids_a4 ids_n5 ids_c6) (by exact e1_44)) _) rfl ?_
            refine WL_val gd0 ((o_len Try.underlying23 rfl) _) rfl ?_
            refine WL_val gd0 ((o_lss rfl rfl) _) rfl ?_
            refine WL_nil ?_
            refine nrm ?_
            refine WC_cond (t := (decide (i54 < (ids_n5 : Int)))) rfl (fun hb57 => ?_) (fun hb57 => ?_)
            · rw [if_pos (of_decide_eq_true hb57)] at h
              refine WC_skip ?_
              refine nrm ?_
              refine WC_seq ?_
              refine WC_block ?_
              refine WC_seq ?_
              refine WC_region ?_
              refine WL_val gd0 ((o_move (v := .slice l_a1 l_n2 l_c3) (by exact e0_43)) _) rfl ?_
              refine WL_val gd0 ((o_move (v := .slice l_a1 l_n2 l_c3) (by exact e0_43)) _) rfl ?_
              refine WL_val gd0 ((o_move (v := .slice ids_a4 ids_n5 ids_c6) (by exact e1_44)) _) rfl ?_
              refine WL_val gd0 ((o_move (v := .int .i64 i54) (by exact e15_53)) _) rfl ?_
              obtain ⟨p60, q61, h⟩ := h
              obtain ⟨l58, u59, h⟩ := h
              refine WL_val gd0 ((o_indexAddr1 Try.underlying23 Try.sizeOf3 (by exact (congrArg (fun z => Value.slice z ids_n5 ids_c6) q61)) rfl l58 u59) _) rfl ?_
              obtain ⟨x62, hc63, h⟩ := h
              refine WL_val gd0 (o_load Try.isAgg3 rfl hc63) rfl ?_
              refine WL_call gd0 (o_call Try.call32 (argCons rfl (argCons rfl argNil)) _) rfl (h.mono ?_)
              rintro _ w64 ⟨x65, rfl, h⟩
              obtain ⟨p68, q69, h⟩ := h
              obtain ⟨l66, u67, h⟩ := h
              refine WL_val gd0 ((o_indexAddr Try.underlying22 Try.sizeOf43 (by exact (congrArg (fun z => Value.slice z l_n2 l_c3) q69)) rfl l66 u67) _) rfl ?_
              obtain ⟨x70, x71, x72, x73, hc74, h⟩ := h
              refine WL_val gd0 (o_loadAgg (vs := [.int .i64 x70, .int .i64 x71, .bool x72, .int .i64 x73]) Try.isAgg43 Try.sizeOf43 rfl hc74) rfl ?_
              have h := New.out h
              refine WL_val gd0 (o_alloc (z := .agg #[.int .i64 0, .int .i64 0, .bool false, .int .i64 0]) (cs := [.int .i64 0, .int .i64 0, .bool false, .int .i64 0]) Try.zeroValue43 rfl) rfl ?_
              generalize hp75 : fresh w64 = p75 at h ⊢
              generalize hw76 : push w64 43 [.int .i64 0, .int .i64 0, .bool false, .int .i64 0] = w76 at h ⊢
              try dsimp only at h
              obtain ⟨c78, h⟩ := h
              refine WL_act gd0 (o_storeAgg (vs := [.int .i64 x70, .int .i64 x71, .bool x72, .int .i64 x73]) Try.sizeOf43 rfl rfl rfl c78) ?_
              generalize hw77 : setAll w76 p75 0 [.int .i64 x70, .int .i64 x71, .bool x72, .int .i64 x73] = w77 at h ⊢
              try dsimp only at h
              refine WL_nil ?_
              refine nrm ?_
              refine WC_seq ?_
              refine WC_region ?_
              refine WL_val gd0 ((o_assign (v := .int .i64 0) rfl) _) rfl ?_
              refine WL_nil ?_
              refine nrm ?_
              refine WC_seq ?_
              refine WC_seq ?_
              refine WC_region ?_
              refine WL_val gd0 ((o_assign (v := .int .i64 0) rfl) _) rfl ?_
              refine WL_nil ?_
              refine nrm ?_
              refine WC_block ?_
              obtain ⟨J92, ⟨n92, h0⟩, hr92⟩ := h
              refine WC_loop (fun n ρ w' => ∃ (n85 v89 k91 : Int), ρ 14 = .int .i64 n85 ∧ ρ 17 = .int .i64 v89 ∧ ρ 18 = .int .i64 k91 ∧ ρ 0 = .slice l_a1 l_n2 l_c3 ∧ ρ 1 = .slice ids_a4 ids_n5 ids_c6 ∧ ρ 2 = .slice b_a7 b_n8 b_c9 ∧ ρ 12 = .int .i64 (IntKind.i64.wrap (Int.tdiv (IntKind.i64.wrap (total21 + 7)) 8)) ∧ ρ 13 = .slice out_a48 out_n49 out_c50 ∧ ρ 15 = .int .i64 i54 ∧ ρ 16 = .pointer (some p75) ∧ J92 n (n85, v89, k91) w') ⟨n92, _, _, _, e14_51, rfl, rfl, e0_43, e1_44, e2_45, e12_46, e13_47, e15_53, rfl, h0⟩ ?_
              rintro n92 ρ w92 ⟨n85, v89, k91, e14_84, e17_88, e18_90, e0_79, e1_80, e2_81, e12_82, e13_83, e15_86, e16_87, h⟩
              have h : F11_b3 p75 b_a7 b_n8 out_a48 out_n49 out_c50 i54 n85 v89 k91 w92 (fun x0 x1 x2 w => ∃ m, m < n92 ∧ J92 m (x0, x1, x2) w) (fun x0 x1 x2 x3 x4 w => ∃ m, m < n55 ∧ J55 m (x0, x1, x2, x3, x4) w) := hr92 n92 (n85, v89, k91) w92 h
              unfold F11_b3 at h
              refine WC_seq ?_
              refine WC_seq ?_
              refine WC_region ?_
              refine WL_val gd0 ((o_move (v := .int .i64 k91) (by exact e18_90)) _) rfl ?_
              refine WL_val gd0 ((o_fieldAddr 1 Try.underlying43 rfl Try.sizeOf3 rfl rfl (by exact e16_87)) _) rfl ?_
              obtain ⟨x94, hc95, h⟩ := h
              refine WL_val gd0 (o_load Try.isAgg3 rfl hc95) rfl ?_
              refine WL_val gd0 ((o_lss rfl rfl) _) rfl ?_
              refine WL_nil ?_
              refine nrm ?_
              refine WC_cond (t := (decide (k91 < x94))) rfl (fun hb96 => ?_) (fun hb96 => ?_)
              · rw [if_pos (of_decide_eq_true hb96)] at h
                refine WC_skip ?_
                refine nrm ?_
                refine WC_seq ?_
                refine WC_block ?_
                refine WC_seq ?_
                refine WC_draws [11] (.look 0 (.look 1 (.look 2 (.look 3 (.look 4 (.look 5 (.look 6 (.look 7 (.look 8 (.look 9 (.look 10 (.act 11 (.look 12 (.look 13 (.look 14 (.look 15 .nil)))))))))))))))) Try.mixed (by kernel_rfl) ?_
                refine WQ_val rfl gd0 (o_move (v := .int .i64 v89) (by exact e17_88)) rfl ?_
                refine WQ_val rfl gd0 (o_mul rfl rfl) rfl ?_
                refine WQ_val rfl gd0 (o_move (v := .slice b_a7 b_n8 b_c9) (by exact e2_81)) rfl ?_
                refine WQ_val rfl gd0 (o_move (v := .int .i64 n85) (by exact e14_84)) rfl ?_
                refine WQ_val rfl gd0 (fun w => o_quo rfl rfl w (by decide)) rfl ?_
                obtain ⟨p99, q100, h⟩ := h
                obtain ⟨l97, u98, h⟩ := h
                refine WQ_val rfl gd0 (o_indexAddr1 Try.underlying24 Try.sizeOf5 (by exact (congrArg (fun z => Value.slice z b_n8 b_c9) q100)) rfl l97 u98) rfl ?_
                obtain ⟨x101, hc102, h⟩ := h
                refine WQ_look (fun w => w.cell? (p99.add ((IntKind.i64.wrap (Int.tdiv n85 8)).toNat)) = some (.int .u8 x101)) rfl gd0 (fun w hc => (o_load Try.isAgg5 rfl hc)) hc102 rfl ?_
                refine WQ_val rfl gd0 (o_conv Try.underlying5 Try.underlying3 rfl) rfl ?_
                refine WQ_val rfl gd0 (o_move (v := .int .i64 n85) (by exact e14_84)) rfl ?_
                refine WQ_val rfl gd0 (fun w => o_rem rfl rfl w (by decide)) rfl ?_
                refine WQ_val rfl gd0 (o_sub rfl rfl) rfl ?_
                refine WQ_call rfl gd0 (o_call Try.call33 (argCons rfl argNil) _) rfl (h.mono ?_)
                rintro _ w103 ⟨x104, rfl, hh105, h⟩
                refine ⟨⟨trivial, fun _ => hh105⟩, ?_⟩
                obtain ⟨c106, h⟩ := h
                refine WQ_val rfl gd0 (fun w => o_quo rfl rfl w c106) rfl ?_
                refine WQ_val rfl gd0 (fun w => o_rem rfl rfl w (by decide)) rfl ?_
                refine WQ_val rfl gd0 (o_add rfl rfl) rfl ?_
                refine WQ_val rfl gd0 (o_assign (v := .int .i64 (IntKind.i64.wrap ((IntKind.i64.wrap (2 * v89)) + (Int.tmod (IntKind.i64.wrap (Int.tdiv (IntKind.i64.wrap x101) x104)) 2)))) rfl) rfl ?_
                refine WQ_nil ?_
                refine nrm ?_
                refine WC_region ?_
                refine WL_val gd0 ((o_move (v := .int .i64 n85) (by exact e14_84)) _) rfl ?_
                refine WL_val gd0 ((o_add rfl rfl) _) rfl ?_
                refine WL_val gd0 ((o_assign (v := .int .i64 (IntKind.i64.wrap (n85 + 1))) rfl) _) rfl ?_
                refine WL_nil ?_
                refine nrmB ?_
                refine nrm ?_
                refine WC_region ?_
                refine WL_val gd0 ((o_move (v := .int .i64 k91) (by exact e18_90)) _) rfl ?_
                refine WL_val gd0 ((o_add rfl rfl) _) rfl ?_
                refine WL_val gd0 ((o_assign (v := .int .i64 (IntKind.i64.wrap (k91 + 1))) rfl) _) rfl ?_
                refine WL_nil ?_
                refine nrm ?_
                obtain ⟨m93, hm93, h⟩ := h
                exact ⟨m93, hm93, _, _, _, rfl, rfl, rfl, e0_79, e1_80, e2_81, e12_82, e13_83, e15_86, e16_87, h⟩
              · rw [if_neg (of_decide_eq_false hb96)] at h
                refine WC_exit ?_
                refine exT ?_
                refine exT ?_
                refine exB ?_
                refine nrm ?_
                refine WC_cut (fun ρ w' => ∃ (v116 : Int), ρ 17 = .int .i64 v116 ∧ ρ 0 = .slice l_a1 l_n2 l_c3 ∧ ρ 1 = .slice ids_a4 ids_n5 ids_c6 ∧ ρ 2 = .slice b_a7 b_n8 b_c9 ∧ ρ 12 = .int .i64 (IntKind.i64.wrap (Int.tdiv (IntKind.i64.wrap (total21 + 7)) 8)) ∧ ρ 13 = .slice out_a48 out_n49 out_c50 ∧ ρ 14 = .int .i64 n85 ∧ ρ 15 = .int .i64 i54 ∧ ρ 16 = .pointer (some p75) ∧ F11_j4 p75 out_a48 out_n49 out_c50 n85 i54 v116 w' (fun x0 x1 x2 x3 x4 w => ∃ m, m < n55 ∧ J55 m (x0, x1, x2, x3, x4) w)) ?_ ?_
                · refine WC_cut (fun ρ w' => ∃ (t137 : Bool), ρ 106 = .bool t137 ∧ ρ 0 = .slice l_a1 l_n2 l_c3 ∧ ρ 1 = .slice ids_a4 ids_n5 ids_c6 ∧ ρ 2 = .slice b_a7 b_n8 b_c9 ∧ ρ 12 = .int .i64 (IntKind.i64.wrap (Int.tdiv (IntKind.i64.wrap (total21 + 7)) 8)) ∧ ρ 13 = .slice out_a48 out_n49 out_c50 ∧ ρ 14 = .int .i64 n85 ∧ ρ 15 = .int .i64 i54 ∧ ρ 16 = .pointer (some p75) ∧ ρ 17 = .int .i64 v89 ∧ F11_j5 p75 out_a48 out_n49 out_c50 n85 i54 v89 t137 w' (fun x0 x1 x2 x3 x4 w => ∃ m, m < n55 ∧ J55 m (x0, x1, x2, x3, x4) w)) ?_ ?_
                  · refine WC_region ?_
                    refine WL_val gd0 ((o_fieldAddr 2 Try.underlying43 rfl Try.sizeOf4 rfl rfl (by exact e16_87)) _) rfl ?_
                    obtain ⟨x144, hc145, h⟩ := h
                    refine WL_val gd0 (o_load Try.isAgg4 rfl hc145) rfl ?_
                    refine WL_val gd0 ((o_move (v := .bool x144) rfl) _) rfl ?_
                    refine bsplit x144 (fun hb146 => ?_) (fun hb146 => ?_)
                    · rw [if_pos hb146] at h
                      refine WL_val (gdY (b := x144) 99 rfl rfl hb146) ((o_move (v := .int .i64 v89) (by exact e17_88)) _) rfl ?_
                      refine WL_val (gdY (b := x144) 99 rfl rfl hb146) ((o_fieldAddr 1 Try.underlying43 rfl Try.sizeOf3 rfl rfl (by exact e16_87)) _) rfl ?_
                      obtain ⟨x147, hc148, h⟩ := h
                      refine WL_val (gdY (b := x144) 99 rfl rfl hb146) (o_load Try.isAgg3 rfl hc148) rfl ?_
                      refine WL_val (gdY (b := x144) 99 rfl rfl hb146) ((o_sub rfl rfl) _) rfl ?_
                      refine WL_call (gdY (b := x144) 99 rfl rfl hb146) (o_call Try.call33 (argCons rfl argNil) _) rfl (h.mono ?_)
                      rintro _ w149 ⟨x150, rfl, h⟩
                      refine WL_val (gdY (b := x144) 99 rfl rfl hb146) ((o_geq rfl rfl) _) rfl ?_
                      refine WL_val gd0 ((o_pickT (v := .bool (decide (x150 ≤ v89))) rfl hb146 rfl) _) rfl ?_
                      refine WL_nil ?_
                      refine nrm ?_
                      exact ⟨_, rfl, e0_79, e1_80, e2_81, e12_82, e13_83, e14_84, e15_86, e16_87, e17_88, h⟩
                    · rw [if_neg (neT hb146)] at h
                      refine WL_skip (gdN (b := x144) 99 rfl rfl hb146) rfl ?_
                      refine WL_skip (gdN (b := x144) 99 rfl rfl hb146) rfl ?_
                      refine WL_skip (gdN (b := x144) 99 rfl rfl hb146) rfl ?_
                      refine WL_skip (gdN (b := x144) 99 rfl rfl hb146) rfl ?_
                      refine WL_skip (gdN (b := x144) 99 rfl rfl hb146) rfl ?_
                      refine WL_skip (gdN (b := x144) 99 rfl rfl hb146) rfl ?_
                      refine WL_val gd0 ((o_pickF (v := .bool false) rfl hb146 rfl) _) rfl ?_
                      refine WL_nil ?_
                      refine nrm ?_
                      exact ⟨_, rfl, e0_79, e1_80, e2_81, e12_82, e13_83, e14_84, e15_86, e16_87, e17_88, h⟩
                  · rintro ρ w138 ⟨t137, e106_136, e0_127, e1_128, e2_129, e12_130, e13_131, e14_132, e15_133, e16_134, e17_135, h⟩
                    unfold F11_j5 at h
                    refine WC_cond (t := t137) (by exact e106_136) (fun hb139 => ?_) (fun hb139 => ?_)
                    · rw [if_pos hb139] at h
                      refine WC_region ?_
                      refine WL_val gd0 ((o_move (v := .int .i64 v89) (by exact e17_135)) _) rfl ?_
                      refine WL_val gd0 ((o_fieldAddr 1 Try.underlying43 rfl Try.sizeOf3 rfl rfl (by exact e16_134)) _) rfl ?_
                      obtain ⟨x140, hc141, h⟩ := h
                      refine WL_val gd0 (o_load Try.isAgg3 rfl hc141) rfl ?_
                      refine WL_call gd0 (o_call Try.call33 (argCons rfl argNil) _) rfl (h.mono ?_)
                      rintro _ w142 ⟨x143, rfl, h⟩
                      refine WL_val gd0 ((o_sub rfl rfl) _) rfl ?_
                      refine WL_val gd0 ((o_assign (v := .int .i64 (IntKind.i64.wrap (v89 - x143))) rfl) _) rfl ?_
                      refine WL_nil ?_
                      refine nrm ?_
                      exact ⟨_, rfl, e0_127, e1_128, e2_129, e12_130, e13_131, e14_132, e15_133, e16_134, h⟩
                    · rw [if_neg (neT hb139)] at h
                      refine WC_skip ?_
                      refine nrm ?_
                      exact ⟨_, e17_135, e0_127, e1_128, e2_129, e12_130, e13_131, e14_132, e15_133, e16_134, h⟩
                · rintro ρ w117 ⟨v116, e17_115, e0_107, e1_108, e2_109, e12_110, e13_111, e14_112, e15_113, e16_114, h⟩
                  unfold F11_j4 at h
                  refine WC_region ?_
                  refine WL_val gd0 ((o_move (v := .slice out_a48 out_n49 out_c50) (by exact e13_111)) _) rfl ?_
                  refine WL_val gd0 ((o_fieldAddr0 Try.underlying43 rfl Try.sizeOf3 rfl rfl (by exact e16_114)) _) rfl ?_
                  obtain ⟨x118, hc119, h⟩ := h
                  refine WL_val gd0 (o_load Try.isAgg3 rfl hc119) rfl ?_
                  refine WL_val gd0 ((o_move (v := .int .i64 v116) (by exact e17_115)) _) rfl ?_
                  refine WL_val gd0 ((o_build (ps := [(0, .int .i64 x118), (1, .int .i64 v116)]) (v := .agg #[.int .i64 x118, .int .i64 v116]) (partCons rfl (partCons rfl partNil)) (fun w => by kernel_rfl)) _) rfl ?_
                  have h := New.out h
                  refine WL_val gd0 (o_buildSlice (e := 40) (ps := [(0, .agg #[.int .i64 x118, .int .i64 v116])]) (cs := [.int .i64 x118, .int .i64 v116]) (partCons rfl partNil) (fun w => by kernel_rfl)) rfl ?_
                  generalize hp120 : fresh w117 = p120 at h ⊢
                  generalize hw121 : push w117 40 [.int .i64 x118, .int .i64 v116] = w121 at h ⊢
                  try dsimp only at h
                  obtain ⟨b_a122, b_n123, b_c124, w125, r126, h⟩ := h
                  refine WL_val gd0 (o_append rfl rfl r126) rfl ?_
                  refine WL_val gd0 ((o_assign (v := .slice b_a122 b_n123 b_c124) rfl) _) rfl ?_
                  refine WL_nil ?_
                  refine nrmB ?_
                  refine nrm ?_
                  refine WC_region ?_
                  refine WL_val gd0 ((o_move (v := .int .i64 i54) (by exact e15_113)) _) rfl ?_
                  refine WL_val gd0 ((o_add rfl rfl) _) rfl ?_
                  refine WL_val gd0 ((o_assign (v := .int .i64 (IntKind.i64.wrap (i54 + 1))) rfl) _) rfl ?_
                  refine WL_nil ?_
                  refine nrm ?_
                  obtain ⟨m56, hm56, h⟩ := h
                  exact ⟨m56, hm56, _, _, _, _, _, rfl, e14_112, rfl, e0_107, e1_108, e2_109, e12_110, h⟩
            · rw [if_neg (of_decide_eq_false hb57)] at h
              refine WC_exit ?_
              refine exT ?_
              refine exT ?_
              refine exB ?_
              refine nrm ?_
              refine WC_seq ?_
              refine WC_block ?_
              obtain ⟨J156, ⟨n156, h0⟩, hr156⟩ := h
              refine WC_loop (fun n ρ w' => ∃ (n155 : Int), ρ 14 = .int .i64 n155 ∧ ρ 2 = .slice b_a7 b_n8 b_c9 ∧ ρ 12 = .int .i64 (IntKind.i64.wrap (Int.tdiv (IntKind.i64.wrap (total21 + 7)) 8)) ∧ ρ 13 = .slice out_a48 out_n49 out_c50 ∧ J156 n n155 w') ⟨n156, _, e14_51, e2_45, e12_46, e13_47, h0⟩ ?_
              rintro n156 ρ w156 ⟨n155, e14_154, e2_151, e12_152, e13_153, h⟩
              have h : F11_b6 total21 b_a7 b_n8 out_a48 out_n49 out_c50 n155 w156 k (fun x0 w => ∃ m, m < n156 ∧ J156 m x0 w) := hr156 n156 n155 w156 h
              unfold F11_b6 at h
              refine WC_seq ?_
              refine WC_seq ?_
              refine WC_region ?_
              refine WL_val gd0 ((o_move (v := .int .i64 n155) (by exact e14_154)) _) rfl ?_
              refine WL_val gd0 ((o_move (v := .int .i64 (IntKind.i64.wrap (Int.tdiv (IntKind.i64.wrap (total21 + 7)) 8))) (by exact e12_152)) _) rfl ?_
              refine WL_val gd0 ((o_mul rfl rfl) _) rfl ?_
              refine WL_val gd0 ((o_lss rfl rfl) _) rfl ?_
              refine WL_nil ?_
              refine nrm ?_
              refine WC_cond (t := (decide (n155 < (IntKind.i64.wrap (8 * (IntKind.i64.wrap (Int.tdiv (IntKind.i64.wrap (total21 + 7)) 8))))))) rfl (fun hb158 => ?_) (fun hb158 => ?_)
              · rw [if_pos (of_decide_eq_true hb158)] at h
                refine WC_skip ?_
                refine nrm ?_
                refine WC_block ?_
                refine WC_seq ?_
                refine WC_seq ?_
                refine WC_draws [9] (.look 0 (.look 1 (.look 2 (.look 3 (.look 4 (.look 5 (.look 6 (.look 7 (.look 8 (.act 9 (.look 10 (.look 11 (.look 12 .nil))))))))))))) Try.mixed (by kernel_rfl) ?_
                refine WQ_val rfl gd0 (o_move (v := .slice b_a7 b_n8 b_c9) (by exact e2_151)) rfl ?_
                refine WQ_val rfl gd0 (o_move (v := .int .i64 n155) (by exact e14_154)) rfl ?_
                refine WQ_val rfl gd0 (fun w => o_quo rfl rfl w (by decide)) rfl ?_
                obtain ⟨p161, q162, h⟩ := h
                obtain ⟨l159, u160, h⟩ := h
                refine WQ_val rfl gd0 (o_indexAddr1 Try.underlying24 Try.sizeOf5 (by exact (congrArg (fun z => Value.slice z b_n8 b_c9) q162)) rfl l159 u160) rfl ?_
                obtain ⟨x163, hc164, h⟩ := h
                refine WQ_look (fun w => w.cell? (p161.add ((IntKind.i64.wrap (Int.tdiv n155 8)).toNat)) = some (.int .u8 x163)) rfl gd0 (fun w hc => (o_load Try.isAgg5 rfl hc)) hc164 rfl ?_
                refine WQ_val rfl gd0 (o_conv Try.underlying5 Try.underlying3 rfl) rfl ?_
                refine WQ_val rfl gd0 (o_move (v := .int .i64 n155) (by exact e14_154)) rfl ?_
                refine WQ_val rfl gd0 (fun w => o_rem rfl rfl w (by decide)) rfl ?_
                refine WQ_val rfl gd0 (o_sub rfl rfl) rfl ?_
                refine WQ_call rfl gd0 (o_call Try.call33 (argCons rfl argNil) _) rfl (h.mono ?_)
                rintro _ w165 ⟨x166, rfl, hh167, h⟩
                refine ⟨⟨trivial, fun _ => hh167⟩, ?_⟩
                obtain ⟨c168, h⟩ := h
                refine WQ_val rfl gd0 (fun w => o_quo rfl rfl w c168) rfl ?_
                refine WQ_val rfl gd0 (fun w => o_rem rfl rfl w (by decide)) rfl ?_
                refine WQ_val rfl gd0 (o_eql rfl rfl) rfl ?_
                refine WQ_nil ?_
                refine nrm ?_
                refine WC_cond (t := (decide ((Int.tmod (IntKind.i64.wrap (Int.tdiv (IntKind.i64.wrap x163) x166)) 2) = 1))) rfl (fun hb169 => ?_) (fun hb169 => ?_)
                · rw [if_pos (of_decide_eq_true hb169)] at h
                  refine WC_seq ?_
                  refine WC_region ?_
                  refine WL_val gd0 ((o_assign (v := .slice none 0 0) rfl) _) rfl ?_
                  refine WL_val gd0 ((o_assign (v := .int .i64 4) rfl) _) rfl ?_
                  refine WL_nil ?_
                  refine nrm ?_
                  refine WC_ret ?_
                  refine rtT ?_
                  refine rtB ?_
                  refine rtT ?_
                  refine rtB ?_
                  refine rtT ?_
                  refine rtE ?_
                  exact gv2 rfl rfl rfl h
                · rw [if_neg (of_decide_eq_false hb169)] at h
                  refine WC_skip ?_
                  refine nrm ?_
                  refine WC_region ?_
                  refine WL_val gd0 ((o_move (v := .int .i64 n155) (by exact e14_154)) _) rfl ?_
                  refine WL_val gd0 ((o_add rfl rfl) _) rfl ?_
                  refine WL_val gd0 ((o_assign (v := .int .i64 (IntKind.i64.wrap (n155 + 1))) rfl) _) rfl ?_
                  refine WL_nil ?_
                  refine nrmB ?_
                  refine nrm ?_
                  obtain ⟨m157, hm157, h⟩ := h
                  exact ⟨m157, hm157, _, rfl, e2_151, e12_152, e13_153, h⟩
              · rw [if_neg (of_decide_eq_false hb158)] at h
                refine WC_exit ?_
                refine exT ?_
                refine exT ?_
                refine exB ?_
                refine nrm ?_
                refine WC_seq ?_
                refine WC_region ?_
                refine WL_val gd0 ((o_move (v := .slice out_a48 out_n49 out_c50) (by exact e13_153)) _) rfl ?_
                refine WL_val gd0 ((o_assign (v := .slice out_a48 out_n49 out_c50) rfl) _) rfl ?_
                refine WL_val gd0 ((o_assign (v := .int .i64 0) rfl) _) rfl ?_
                refine WL_nil ?_
                refine nrm ?_
                refine WC_ret ?_
                refine rtE ?_
                exact gv2 rfl rfl rfl h

def F12_b1 (a_n2 : Nat) (a_a1 : Option Addr) (b_a4 : Option Addr) (b_n5 : Nat) (i12 : Int) (w13 : World) (k : Value → World → Prop) (nx13 : Int → World → Prop) : Prop :=
  if i12 < (a_n2 : Int) then
  ∃ (p18 : Addr), a_a1 = some p18 ∧ (0 : Int) ≤ i12 ∧ i12 < (a_n2 : Int) ∧ ∃ (x20 x21 : Int), Cells w13.drew (p18.add (i12.toNat * 2)) 0 [.int .i64 x20, .int .i64 x21] ∧ ∃ (p25 : Addr), b_a4 = some p25 ∧ (0 : Int) ≤ i12 ∧ i12 < (b_n5 : Int) ∧ ∃ (x27 x28 : Int), Cells w13.drew (p25.add (i12.toNat * 2)) 0 [.int .i64 x27, .int .i64 x28] ∧ ∃ (eq30 : Bool), (∀ w d, (Op.equalIn (d + 5) 40 (.agg #[.int .i64 x20, .int .i64 x21]) (.agg #[.int .i64 x27, .int .i64 x28])).run Try.prog w = .ok eq30 w) ∧ if (!eq30) = true then
    k (.bool false) w13.drew
  else
    nx13 (IntKind.i64.wrap (i12 + 1)) w13.drew
else
  k (.bool true) w13
/-- spacecraft spacecraftref33.Same -/
def F12 (a_a1 : Option Addr) (a_n2 : Nat) (a_c3 : Nat) (b_a4 : Option Addr) (b_n5 : Nat) (b_c6 : Nat) (w7 : World) (k : Value → World → Prop) : Prop :=
  if (a_n2 : Int) ≠ (b_n5 : Int) then
  k (.bool false) w7
else
  LoopP (fun (s : Int) w' nx' => F12_b1 a_n2 a_a1 b_a4 b_n5 s w' k (fun x0 w => nx' x0 w)) 0 w7
set_option maxRecDepth 100000 in
set_option maxHeartbeats 2000000 in
theorem w12 (a_a1 : Option Addr) (a_n2 : Nat) (a_c3 : Nat) (b_a4 : Option Addr) (b_n5 : Nat) (b_c6 : Nat) (w7 : World) (k : Value → World → Prop) (h : F12 a_a1 a_n2 a_c3 b_a4 b_n5 b_c6 w7 k) : Does Try.prog 12 #[.slice a_a1 a_n2 a_c3, .slice b_a4 b_n5 b_c6] w7 k := by
  refine enter 26 Try.func12 rfl rfl rfl ?_
  intro ρ hρ
  have e0 := hρ 0 _ rfl
  have e1 := hρ 1 _ rfl
  unfold F12 at h
  refine WC_seq ?_
  refine WC_region ?_
  refine WL_val gd0 ((o_assign (v := .bool false) rfl) _) rfl ?_
  refine WL_nil ?_
  refine nrm ?_
  refine WC_seq ?_
  refine WC_seq ?_
  refine WC_region ?_
  refine WL_val gd0 ((o_move (v := .slice a_a1 a_n2 a_c3) (by exact e0)) _) rfl ?_
  refine WL_val gd0 ((o_len Try.underlying26 rfl) _) rfl ?_
  refine WL_val gd0 ((o_move (v := .slice b_a4 b_n5 b_c6) (by exact e1)) _) rfl ?_
  refine WL_val gd0 ((o_len Try.underlying26 rfl) _) rfl ?_
  refine WL_val gd0 ((o_neq rfl rfl) _) rfl ?_
  refine WL_nil ?_
  refine nrm ?_
  refine WC_cond (t := (decide ((a_n2 : Int) ≠ (b_n5 : Int)))) rfl (fun hb8 => ?_) (fun hb8 => ?_)
  · rw [if_pos (of_decide_eq_true hb8)] at h
    refine WC_seq ?_
    refine WC_region ?_
    refine WL_val gd0 ((o_assign (v := .bool false) rfl) _) rfl ?_
    refine WL_nil ?_
    refine nrm ?_
    refine WC_ret ?_
    refine rtT ?_
    refine rtE ?_
    exact gv1 rfl rfl h
  · rw [if_neg (of_decide_eq_false hb8)] at h
    refine WC_skip ?_
    refine nrm ?_
    refine WC_seq ?_
    refine WC_seq ?_
    refine WC_region ?_
    refine WL_val gd0 ((o_assign (v := .int .i64 0) rfl) _) rfl ?_
    refine WL_nil ?_
    refine nrm ?_
    refine WC_block ?_
    obtain ⟨J13, ⟨n13, h0⟩, hr13⟩ := h
    refine WC_loop (fun n ρ w' => ∃ (i12 : Int), ρ 5 = .int .i64 i12 ∧ ρ 0 = .slice a_a1 a_n2 a_c3 ∧ ρ 1 = .slice b_a4 b_n5 b_c6 ∧ J13 n i12 w') ⟨n13, _, rfl, e0, e1, h0⟩ ?_
    rintro n13 ρ w13 ⟨i12, e5_11, e0_9, e1_10, h⟩
    have h : F12_b1 a_n2 a_a1 b_a4 b_n5 i12 w13 k (fun x0 w => ∃ m, m < n13 ∧ J13 m x0 w) := hr13 n13 i12 w13 h
    unfold F12_b1 at h
    refine WC_seq ?_
    refine WC_seq ?_
    refine WC_region ?_
    refine WL_val gd0 ((o_move (v := .int .i64 i12) (by exact e5_11)) _) rfl ?_
    refine WL_val gd0 ((o_move (v := .slice a_a1 a_n2 a_c3) (by exact e0_9)) _) rfl ?_
    refine WL_val gd0 ((o_len Try.underlying26 rfl) _) rfl ?_
    refine WL_val gd0 ((o_lss rfl rfl) _) rfl ?_
    refine WL_nil ?_
    refine nrm ?_
    refine WC_cond (t := (decide (i12 < (a_n2 : Int)))) rfl (fun hb15 => ?_) (fun hb15 => ?_)
    · rw [if_pos (of_decide_eq_true hb15)] at h
      refine WC_skip ?_
      refine nrm ?_
      refine WC_seq ?_
      refine WC_block ?_
      refine WC_seq ?_
      refine WC_draws [] (.look 0 (.look 1 (.look 2 (.look 3 (.look 4 (.look 5 (.look 6 (.look 7 (.look 8 .nil))))))))) Try.mixed (by kernel_rfl) ?_
      refine WQ_val rfl gd0 (o_move (v := .slice a_a1 a_n2 a_c3) (by exact e0_9)) rfl ?_
      refine WQ_val rfl gd0 (o_move (v := .int .i64 i12) (by exact e5_11)) rfl ?_
      obtain ⟨p18, q19, h⟩ := h
      obtain ⟨l16, u17, h⟩ := h
      refine WQ_val rfl gd0 (o_indexAddr Try.underlying26 Try.sizeOf40 (by exact (congrArg (fun z => Value.slice z a_n2 a_c3) q19)) rfl l16 u17) rfl ?_
      obtain ⟨x20, x21, hc22, h⟩ := h
      refine WQ_look (fun w => Cells w (p18.add (i12.toNat * 2)) 0 [.int .i64 x20, .int .i64 x21]) rfl gd0 (fun w hc => (o_loadAgg (vs := [.int .i64 x20, .int .i64 x21]) Try.isAgg40 Try.sizeOf40 rfl hc)) hc22 rfl ?_
      refine WQ_val rfl gd0 (o_move (v := .slice b_a4 b_n5 b_c6) (by exact e1_10)) rfl ?_
      refine WQ_val rfl gd0 (o_move (v := .int .i64 i12) (by exact e5_11)) rfl ?_
      obtain ⟨p25, q26, h⟩ := h
      obtain ⟨l23, u24, h⟩ := h
      refine WQ_val rfl gd0 (o_indexAddr Try.underlying26 Try.sizeOf40 (by exact (congrArg (fun z => Value.slice z b_n5 b_c6) q26)) rfl l23 u24) rfl ?_
      obtain ⟨x27, x28, hc29, h⟩ := h
      refine WQ_look (fun w => Cells w (p25.add (i12.toNat * 2)) 0 [.int .i64 x27, .int .i64 x28]) rfl gd0 (fun w hc => (o_loadAgg (vs := [.int .i64 x27, .int .i64 x28]) Try.isAgg40 Try.sizeOf40 rfl hc)) hc29 rfl ?_
      obtain ⟨eq30, c31, h⟩ := h
      refine WQ_val rfl gd0 (o_neqAgg (xs := #[.int .i64 x20, .int .i64 x21]) (ys := #[.int .i64 x27, .int .i64 x28]) Try.eqGuardType40 rfl rfl c31) rfl ?_
      refine WQ_nil ?_
      refine nrm ?_
      refine WC_cond (t := (!eq30)) rfl (fun hb32 => ?_) (fun hb32 => ?_)
      · rw [if_pos hb32] at h
        refine WC_seq ?_
        refine WC_region ?_
        refine WL_val gd0 ((o_assign (v := .bool false) rfl) _) rfl ?_
        refine WL_nil ?_
        refine nrm ?_
        refine WC_ret ?_
        refine rtB ?_
        refine rtT ?_
        refine rtT ?_
        refine rtB ?_
        refine rtT ?_
        refine rtE ?_
        exact gv1 rfl rfl h
      · rw [if_neg (neT hb32)] at h
        refine WC_skip ?_
        refine nrmB ?_
        refine nrm ?_
        refine WC_region ?_
        refine WL_val gd0 ((o_move (v := .int .i64 i12) (by exact e5_11)) _) rfl ?_
        refine WL_val gd0 ((o_add rfl rfl) _) rfl ?_
        refine WL_val gd0 ((o_assign (v := .int .i64 (IntKind.i64.wrap (i12 + 1))) rfl) _) rfl ?_
        refine WL_nil ?_
        refine nrm ?_
        obtain ⟨m14, hm14, h⟩ := h
        exact ⟨m14, hm14, _, rfl, e0_9, e1_10, h⟩
    · rw [if_neg (of_decide_eq_false hb15)] at h
      refine WC_exit ?_
      refine exT ?_
      refine exT ?_
      refine exB ?_
      refine nrm ?_
      refine WC_seq ?_
      refine WC_region ?_
      refine WL_val gd0 ((o_assign (v := .bool true) rfl) _) rfl ?_
      refine WL_nil ?_
      refine nrm ?_
      refine WC_ret ?_
      refine rtE ?_
      exact gv1 rfl rfl h

def F13_j2 (p26 : Addr) (p6 : Addr) (t13 : Int) (t37 : Bool) (w38 : World) (k : Value → World → Prop) (nx14 : Int → World → Prop) : Prop :=
  if t37 = true then
  k (.tuple #[.pointer none, .int .i64 1]) w38
else
  ∃ (x40 : Int), w38.drew.cell? p26 = some (.int .i64 x40) ∧ ∃ (x42 x43 : Int) (x44 : Bool) (x45 : Int), Cells w38.drew p26 0 [.int .i64 x42, .int .i64 x43, .bool x44, .int .i64 x45] ∧ Does Try.prog 35 #[.pointer (some (p6.add 1)), .int .i64 x40, .agg #[.int .i64 x42, .int .i64 x43, .bool x44, .int .i64 x45]] w38.drew (fun v w47 => v = .tuple #[] ∧ nx14 (IntKind.i64.wrap (t13 + 1)) w47)
def F13_b1 (l_n2 : Nat) (l_a1 : Option Addr) (p6 : Addr) (t13 : Int) (w14 : World) (k : Value → World → Prop) (nx14 : Int → World → Prop) : Prop :=
  if t13 < (l_n2 : Int) then
  ∃ (p19 : Addr), l_a1 = some p19 ∧ (0 : Int) ≤ t13 ∧ t13 < (l_n2 : Int) ∧ ∃ (x21 x22 : Int) (x23 : Bool) (x24 : Int), Cells w14 (p19.add (t13.toNat * 4)) 0 [.int .i64 x21, .int .i64 x22, .bool x23, .int .i64 x24] ∧ New w14 43 [.int .i64 0, .int .i64 0, .bool false, .int .i64 0] (fun p26 w27 => PutAll w27 p26 [.int .i64 x21, .int .i64 x22, .bool x23, .int .i64 x24] (fun w28 => ∃ (x48 : Int), w28.drew.cell? p26 = some (.int .i64 x48) ∧ if x48 < 0 then
    F13_j2 p26 p6 t13 true w28.drew k nx14
  else
    ∃ (x51 : Int), w28.drew.cell? p26 = some (.int .i64 x51) ∧ if 65535 < x51 then
      F13_j2 p26 p6 t13 true w28.drew k nx14
    else
      if 0 < t13 then
        (0 : Int) ≤ IntKind.i64.wrap (t13 - 1) ∧ IntKind.i64.wrap (t13 - 1) < (l_n2 : Int) ∧ ∃ (x57 : Int), w28.drew.cell? (p19.add (((IntKind.i64.wrap (t13 - 1)).toNat) * 4)) = some (.int .i64 x57) ∧ ∃ (x59 : Int), w28.drew.cell? p26 = some (.int .i64 x59) ∧ if x59 ≤ x57 then
          F13_j2 p26 p6 t13 true w28.drew k nx14
        else
          ∃ (x62 : Int), w28.drew.cell? (p26.add 1) = some (.int .i64 x62) ∧ if x62 < 1 then
            F13_j2 p26 p6 t13 true w28.drew k nx14
          else
            ∃ (x65 : Int), w28.drew.cell? (p26.add 1) = some (.int .i64 x65) ∧ if 32 < x65 then
              F13_j2 p26 p6 t13 true w28.drew k nx14
            else
              ∃ (x68 x69 : Int) (x70 : Bool) (x71 : Int), Cells w28.drew p26 0 [.int .i64 x68, .int .i64 x69, .bool x70, .int .i64 x71] ∧ ∃ (x73 : Int), w28.drew.cell? (p26.add 3) = some (.int .i64 x73) ∧ Does Try.prog 34 #[.agg #[.int .i64 x68, .int .i64 x69, .bool x70, .int .i64 x71], .int .i64 x73] w28.drew (fun v w75 => ∃ (x76 : Bool), v = .bool x76 ∧ F13_j2 p26 p6 t13 (!x76) w75 k nx14)
      else
        ∃ (x77 : Int), w28.drew.cell? (p26.add 1) = some (.int .i64 x77) ∧ if x77 < 1 then
          F13_j2 p26 p6 t13 true w28.drew k nx14
        else
          ∃ (x80 : Int), w28.drew.cell? (p26.add 1) = some (.int .i64 x80) ∧ if 32 < x80 then
            F13_j2 p26 p6 t13 true w28.drew k nx14
          else
            ∃ (x83 x84 : Int) (x85 : Bool) (x86 : Int), Cells w28.drew p26 0 [.int .i64 x83, .int .i64 x84, .bool x85, .int .i64 x86] ∧ ∃ (x88 : Int), w28.drew.cell? (p26.add 3) = some (.int .i64 x88) ∧ Does Try.prog 34 #[.agg #[.int .i64 x83, .int .i64 x84, .bool x85, .int .i64 x86], .int .i64 x88] w28.drew (fun v w90 => ∃ (x91 : Bool), v = .bool x91 ∧ F13_j2 p26 p6 t13 (!x91) w90 k nx14)))
else
  k (.tuple #[.pointer (some p6), .int .i64 0]) w14
/-- spacecraft params.New -/
def F13 (l_a1 : Option Addr) (l_n2 : Nat) (l_c3 : Nat) (w4 : World) (k : Value → World → Prop) : Prop :=
  if 256 < (l_n2 : Int) then
  k (.tuple #[.pointer none, .int .i64 6]) w4
else
  New w4 64 [.bool true, .slice none 0 0, .slice none 0 0] (fun p6 w7 => LoopP (fun (s : Int) w' nx' => F13_b1 l_n2 l_a1 p6 s w' k (fun x0 w => nx' x0 w)) 0 w7)
set_option maxRecDepth 100000 in
set_option maxHeartbeats 2000000 in
theorem w13 (l_a1 : Option Addr) (l_n2 : Nat) (l_c3 : Nat) (w4 : World) (k : Value → World → Prop) (h : F13 l_a1 l_n2 l_c3 w4 k) : Does Try.prog 13 #[.slice l_a1 l_n2 l_c3] w4 k := by
  refine enter 68 Try.func13 rfl rfl rfl ?_
  intro ρ hρ
  have e0 := hρ 0 _ rfl
  unfold F13 at h
  refine WC_seq ?_
  refine WC_region ?_
  refine WL_val gd0 ((o_assign (v := .pointer none) rfl) _) rfl ?_
  refine WL_val gd0 ((o_assign (v := .int .i64 0) rfl) _) rfl ?_
  refine WL_nil ?_
  refine nrm ?_
  refine WC_seq ?_
  refine WC_seq ?_
  refine WC_region ?_
  refine WL_val gd0 ((o_move (v := .slice l_a1 l_n2 l_c3) (by exact e0)) _) rfl ?_
  refine WL_val gd0 ((o_len Try.underlying22 rfl) _) rfl ?_
  refine WL_val gd0 ((o_gtr rfl rfl) _) rfl ?_
  refine WL_nil ?_
  refine nrm ?_
  refine WC_cond (t := (decide (256 < (l_n2 : Int)))) rfl (fun hb5 => ?_) (fun hb5 => ?_)
  · rw [if_pos (of_decide_eq_true hb5)] at h
    refine WC_seq ?_
    refine WC_region ?_
    refine WL_val gd0 ((o_assign (v := .pointer none) rfl) _) rfl ?_
    refine WL_val gd0 ((o_assign (v := .int .i64 6) rfl) _) rfl ?_
    refine WL_nil ?_
    refine nrm ?_
    refine WC_ret ?_
    refine rtT ?_
    refine rtE ?_
    exact gv2 rfl rfl rfl h
  · rw [if_neg (of_decide_eq_false hb5)] at h
    refine WC_skip ?_
    refine nrm ?_
    refine WC_seq ?_
    refine WC_region ?_
    refine WL_val gd0 ((o_build (ps := [(0, .bool true)]) (v := .agg #[.bool true, .slice none 0 0, .slice none 0 0]) (partCons rfl partNil) (fun w => by kernel_rfl)) _) rfl ?_
    have h := New.out h
    refine WL_val gd0 (o_box (v := .agg #[.bool true, .slice none 0 0, .slice none 0 0]) (cs := [.bool true, .slice none 0 0, .slice none 0 0]) rfl rfl) rfl ?_
    generalize hp6 : fresh w4 = p6 at h ⊢
    generalize hw7 : push w4 64 [.bool true, .slice none 0 0, .slice none 0 0] = w7 at h ⊢
    try dsimp only at h
    refine WL_val gd0 ((o_assign (v := .pointer (some p6)) rfl) _) rfl ?_
    refine WL_nil ?_
    refine nrm ?_
    refine WC_seq ?_
    refine WC_seq ?_
    refine WC_region ?_
    refine WL_val gd0 ((o_move (v := .slice l_a1 l_n2 l_c3) (by exact e0)) _) rfl ?_
    refine WL_val gd0 ((o_len Try.underlying22 rfl) _) rfl ?_
    refine WL_val gd0 ((o_move (v := .int .i64 0) rfl) _) rfl ?_
    refine WL_nil ?_
    refine nrm ?_
    refine WC_block ?_
    obtain ⟨J14, ⟨n14, h0⟩, hr14⟩ := h
    refine WC_loop (fun n ρ w' => ∃ (t13 : Int), ρ 14 = .int .i64 t13 ∧ ρ 0 = .slice l_a1 l_n2 l_c3 ∧ ρ 4 = .pointer (some p6) ∧ ρ 12 = .slice l_a1 l_n2 l_c3 ∧ ρ 13 = .int .i64 (l_n2 : Int) ∧ J14 n t13 w') ⟨n14, _, rfl, e0, rfl, rfl, rfl, h0⟩ ?_
    rintro n14 ρ w14 ⟨t13, e14_12, e0_8, e4_9, e12_10, e13_11, h⟩
    have h : F13_b1 l_n2 l_a1 p6 t13 w14 k (fun x0 w => ∃ m, m < n14 ∧ J14 m x0 w) := hr14 n14 t13 w14 h
    unfold F13_b1 at h
    refine WC_seq ?_
    refine WC_region ?_
    refine WL_val gd0 ((o_lss (by exact e14_12) (by exact e13_11)) _) rfl ?_
    refine WL_nil ?_
    refine nrm ?_
    refine WC_seq ?_
    refine WC_cond (t := (decide (t13 < (l_n2 : Int)))) rfl (fun hb16 => ?_) (fun hb16 => ?_)
    · rw [if_pos (of_decide_eq_true hb16)] at h
      refine WC_skip ?_
      refine nrm ?_
      refine WC_seq ?_
      refine WC_block ?_
      refine WC_seq ?_
      refine WC_region ?_
      refine WL_val gd0 ((o_move (v := .int .i64 t13) (by exact e14_12)) _) rfl ?_
      obtain ⟨p19, q20, h⟩ := h
      obtain ⟨l17, u18, h⟩ := h
      refine WL_val gd0 ((o_indexAddr Try.underlying22 Try.sizeOf43 (by exact (Eq.trans e12_10 (congrArg (fun z => Value.slice z l_n2 l_c3) q20))) (by exact e14_12) l17 u18) _) rfl ?_
      obtain ⟨x21, x22, x23, x24, hc25, h⟩ := h
      refine WL_val gd0 (o_loadAgg (vs := [.int .i64 x21, .int .i64 x22, .bool x23, .int .i64 x24]) Try.isAgg43 Try.sizeOf43 rfl hc25) rfl ?_
      have h := New.out h
      refine WL_val gd0 (o_alloc (z := .agg #[.int .i64 0, .int .i64 0, .bool false, .int .i64 0]) (cs := [.int .i64 0, .int .i64 0, .bool false, .int .i64 0]) Try.zeroValue43 rfl) rfl ?_
      generalize hp26 : fresh w14 = p26 at h ⊢
      generalize hw27 : push w14 43 [.int .i64 0, .int .i64 0, .bool false, .int .i64 0] = w27 at h ⊢
      try dsimp only at h
      refine WL_val gd0 ((o_assign (v := .int .i64 t13) rfl) _) rfl ?_
      obtain ⟨c29, h⟩ := h
      refine WL_act gd0 (o_storeAgg (vs := [.int .i64 x21, .int .i64 x22, .bool x23, .int .i64 x24]) Try.sizeOf43 rfl rfl rfl c29) ?_
      generalize hw28 : setAll w27 p26 0 [.int .i64 x21, .int .i64 x22, .bool x23, .int .i64 x24] = w28 at h ⊢
      try dsimp only at h
      refine WL_nil ?_
      refine nrm ?_
      refine WC_seq ?_
      refine WC_cut (fun ρ w' => ∃ (t37 : Bool), ρ 58 = .bool t37 ∧ ρ 0 = .slice l_a1 l_n2 l_c3 ∧ ρ 4 = .pointer (some p6) ∧ ρ 6 = .pointer (some p26) ∧ ρ 12 = .slice l_a1 l_n2 l_c3 ∧ ρ 13 = .int .i64 (l_n2 : Int) ∧ ρ 14 = .int .i64 t13 ∧ F13_j2 p26 p6 t13 t37 w' k (fun x0 w => ∃ m, m < n14 ∧ J14 m x0 w)) ?_ ?_
      · refine WC_draws [37] (.look 0 (.look 1 (.look 2 (.look 3 (.look 4 (.look 5 (.look 6 (.look 7 (.look 8 (.look 9 (.look 10 (.look 11 (.look 12 (.look 13 (.look 14 (.look 15 (.look 16 (.look 17 (.look 18 (.look 19 (.look 20 (.look 21 (.look 22 (.look 23 (.look 24 (.look 25 (.look 26 (.look 27 (.look 28 (.look 29 (.look 30 (.look 31 (.look 32 (.look 33 (.look 34 (.look 35 (.look 36 (.act 37 (.look 38 (.look 39 .nil)))))))))))))))))))))))))))))))))))))))) Try.mixed (by kernel_rfl) ?_
        refine WQ_val rfl gd0 (o_fieldAddr0 Try.underlying43 rfl Try.sizeOf3 rfl rfl rfl) rfl ?_
        obtain ⟨x48, hc49, h⟩ := h
        refine WQ_look (fun w => w.cell? p26 = some (.int .i64 x48)) rfl gd0 (fun w hc => (o_load Try.isAgg3 rfl hc)) hc49 rfl ?_
        refine WQ_val rfl gd0 (o_lss rfl rfl) rfl ?_
        refine WQ_val rfl gd0 (o_move (v := .bool (decide (x48 < 0))) rfl) rfl ?_
        refine bsplit (decide (x48 < 0)) (fun hb50 => ?_) (fun hb50 => ?_)
        · rw [if_pos (of_decide_eq_true hb50)] at h
          refine WQ_skip rfl (gdN (b := (decide (x48 < 0))) 22 rfl rfl hb50) rfl ?_
          refine WQ_skip rfl (gdN (b := (decide (x48 < 0))) 22 rfl rfl hb50) rfl ?_
          refine WQ_skip rfl (gdN (b := (decide (x48 < 0))) 22 rfl rfl hb50) rfl ?_
          refine WQ_val rfl gd0 (o_pickT (v := .bool true) rfl hb50 rfl) rfl ?_
          refine WQ_val rfl gd0 (o_move (v := .bool true) rfl) rfl ?_
          refine WQ_skip rfl (gdN (b := true) 27 rfl rfl rfl) rfl ?_
          refine WQ_skip rfl (gdN (b := true) 27 rfl rfl rfl) rfl ?_
          refine WQ_skip rfl (gdN (b := true) 27 rfl rfl rfl) rfl ?_
          refine WQ_skip rfl (gdU 30 rfl rfl) rfl ?_
          refine WQ_skip rfl (gdU 30 rfl rfl) rfl ?_
          refine WQ_skip rfl (gdU 30 rfl rfl) rfl ?_
          refine WQ_skip rfl (gdU 30 rfl rfl) rfl ?_
          refine WQ_skip rfl (gdU 30 rfl rfl) rfl ?_
          refine WQ_skip rfl (gdU 30 rfl rfl) rfl ?_
          refine WQ_skip rfl (gdU 30 rfl rfl) rfl ?_
          refine WQ_skip rfl (gdU 30 rfl rfl) rfl ?_
          refine WQ_skip rfl (gdU 30 rfl rfl) rfl ?_
          refine WQ_skip rfl (gdN (b := true) 27 rfl rfl rfl) rfl ?_
          refine WQ_val rfl gd0 (o_pickT (v := .bool true) rfl rfl rfl) rfl ?_
          refine WQ_val rfl gd0 (o_move (v := .bool true) rfl) rfl ?_
          refine WQ_skip rfl (gdN (b := true) 42 rfl rfl rfl) rfl ?_
          refine WQ_skip rfl (gdN (b := true) 42 rfl rfl rfl) rfl ?_
          refine WQ_skip rfl (gdN (b := true) 42 rfl rfl rfl) rfl ?_
          refine WQ_val rfl gd0 (o_pickT (v := .bool true) rfl rfl rfl) rfl ?_
          refine WQ_val rfl gd0 (o_move (v := .bool true) rfl) rfl ?_
          refine WQ_skip rfl (gdN (b := true) 47 rfl rfl rfl) rfl ?_
          refine WQ_skip rfl (gdN (b := true) 47 rfl rfl rfl) rfl ?_
          refine WQ_skip rfl (gdN (b := true) 47 rfl rfl rfl) rfl ?_
          refine WQ_val rfl gd0 (o_pickT (v := .bool true) rfl rfl rfl) rfl ?_
          refine WQ_val rfl gd0 (o_move (v := .bool true) rfl) rfl ?_
          refine WQ_skip rfl (gdN (b := true) 52 rfl rfl rfl) rfl ?_
          refine WQ_skip rfl (gdN (b := true) 52 rfl rfl rfl) rfl ?_
          refine WQ_skip rfl (gdN (b := true) 52 rfl rfl rfl) rfl ?_
          refine WQ_passAct rfl (gdN (b := true) 52 rfl rfl rfl) rfl (by exact ⟨trivial, depT (by kernel_rfl)⟩) ?_
          refine WQ_skip rfl (gdN (b := true) 52 rfl rfl rfl) rfl ?_
          refine WQ_val rfl gd0 (o_pickT (v := .bool true) rfl rfl rfl) rfl ?_
          refine WQ_nil ?_
          refine nrm ?_
          exact ⟨_, rfl, e0_8, e4_9, rfl, e12_10, e13_11, e14_12, h⟩
        · rw [if_neg (of_decide_eq_false hb50)] at h
          refine WQ_val rfl (gdY (b := (decide (x48 < 0))) 22 rfl rfl hb50) (o_fieldAddr0 Try.underlying43 rfl Try.sizeOf3 rfl rfl rfl) rfl ?_
          obtain ⟨x51, hc52, h⟩ := h
          refine WQ_look (fun w => w.cell? p26 = some (.int .i64 x51)) rfl (gdY (b := (decide (x48 < 0))) 22 rfl rfl hb50) (fun w hc => (o_load Try.isAgg3 rfl hc)) hc52 rfl ?_
          refine WQ_val rfl (gdY (b := (decide (x48 < 0))) 22 rfl rfl hb50) (o_gtr rfl rfl) rfl ?_
          refine WQ_val rfl gd0 (o_pickF (v := .bool (decide (65535 < x51))) rfl hb50 rfl) rfl ?_
          refine WQ_val rfl gd0 (o_move (v := .bool (decide (65535 < x51))) rfl) rfl ?_
          refine bsplit (decide (65535 < x51)) (fun hb53 => ?_) (fun hb53 => ?_)
          · rw [if_pos (of_decide_eq_true hb53)] at h
            refine WQ_skip rfl (gdN (b := (decide (65535 < x51))) 27 rfl rfl hb53) rfl ?_
            refine WQ_skip rfl (gdN (b := (decide (65535 < x51))) 27 rfl rfl hb53) rfl ?_
            refine WQ_skip rfl (gdN (b := (decide (65535 < x51))) 27 rfl rfl hb53) rfl ?_
            refine WQ_skip rfl (gdU 30 rfl rfl) rfl ?_
            refine WQ_skip rfl (gdU 30 rfl rfl) rfl ?_
            refine WQ_skip rfl (gdU 30 rfl rfl) rfl ?_
            refine WQ_skip rfl (gdU 30 rfl rfl) rfl ?_
            refine WQ_skip rfl (gdU 30 rfl rfl) rfl ?_
            refine WQ_skip rfl (gdU 30 rfl rfl) rfl ?_
            refine WQ_skip rfl (gdU 30 rfl rfl) rfl ?_
            refine WQ_skip rfl (gdU 30 rfl rfl) rfl ?_
            refine WQ_skip rfl (gdU 30 rfl rfl) rfl ?_
            refine WQ_skip rfl (gdN (b := (decide (65535 < x51))) 27 rfl rfl hb53) rfl ?_
            refine WQ_val rfl gd0 (o_pickT (v := .bool true) rfl hb53 rfl) rfl ?_
            refine WQ_val rfl gd0 (o_move (v := .bool true) rfl) rfl ?_
            refine WQ_skip rfl (gdN (b := true) 42 rfl rfl rfl) rfl ?_
            refine WQ_skip rfl (gdN (b := true) 42 rfl rfl rfl) rfl ?_
            refine WQ_skip rfl (gdN (b := true) 42 rfl rfl rfl) rfl ?_
            refine WQ_val rfl gd0 (o_pickT (v := .bool true) rfl rfl rfl) rfl ?_
            refine WQ_val rfl gd0 (o_move (v := .bool true) rfl) rfl ?_
            refine WQ_skip rfl (gdN (b := true) 47 rfl rfl rfl) rfl ?_
            refine WQ_skip rfl (gdN (b := true) 47 rfl rfl rfl) rfl ?_
            refine WQ_skip rfl (gdN (b := true) 47 rfl rfl rfl) rfl ?_
            refine WQ_val rfl gd0 (o_pickT (v := .bool true) rfl rfl rfl) rfl ?_
            refine WQ_val rfl gd0 (o_move (v := .bool true) rfl) rfl ?_
            refine WQ_skip rfl (gdN (b := true) 52 rfl rfl rfl) rfl ?_
            refine WQ_skip rfl (gdN (b := true) 52 rfl rfl rfl) rfl ?_
            refine WQ_skip rfl (gdN (b := true) 52 rfl rfl rfl) rfl ?_
            refine WQ_passAct rfl (gdN (b := true) 52 rfl rfl rfl) rfl (by exact ⟨⟨trivial, depT (by kernel_rfl)⟩, depT (by kernel_rfl)⟩) ?_
            refine WQ_skip rfl (gdN (b := true) 52 rfl rfl rfl) rfl ?_
            refine WQ_val rfl gd0 (o_pickT (v := .bool true) rfl rfl rfl) rfl ?_
            refine WQ_nil ?_
            refine nrm ?_
            exact ⟨_, rfl, e0_8, e4_9, rfl, e12_10, e13_11, e14_12, h⟩
          · rw [if_neg (of_decide_eq_false hb53)] at h
            refine WQ_val rfl (gdY (b := (decide (65535 < x51))) 27 rfl rfl hb53) (o_move (v := .int .i64 t13) rfl) rfl ?_
            refine WQ_val rfl (gdY (b := (decide (65535 < x51))) 27 rfl rfl hb53) (o_gtr rfl rfl) rfl ?_
            refine WQ_val rfl (gdY (b := (decide (65535 < x51))) 27 rfl rfl hb53) (o_move (v := .bool (decide (0 < t13))) rfl) rfl ?_
            refine bsplit (decide (0 < t13)) (fun hb54 => ?_) (fun hb54 => ?_)
            · rw [if_pos (of_decide_eq_true hb54)] at h
              refine WQ_val rfl (gdY (b := (decide (0 < t13))) 30 rfl rfl hb54) (o_move (v := .slice l_a1 l_n2 l_c3) (by exact e0_8)) rfl ?_
              refine WQ_val rfl (gdY (b := (decide (0 < t13))) 30 rfl rfl hb54) (o_move (v := .int .i64 t13) rfl) rfl ?_
              refine WQ_val rfl (gdY (b := (decide (0 < t13))) 30 rfl rfl hb54) (o_sub rfl rfl) rfl ?_
              obtain ⟨l55, u56, h⟩ := h
              refine WQ_val rfl (gdY (b := (decide (0 < t13))) 30 rfl rfl hb54) (o_indexAddr Try.underlying22 Try.sizeOf43 (by exact (congrArg (fun z => Value.slice z l_n2 l_c3) q20)) rfl l55 u56) rfl ?_
              refine WQ_val rfl (gdY (b := (decide (0 < t13))) 30 rfl rfl hb54) (o_fieldAddr0 Try.underlying43 rfl Try.sizeOf3 rfl rfl rfl) rfl ?_
              obtain ⟨x57, hc58, h⟩ := h
              refine WQ_look (fun w => w.cell? (p19.add (((IntKind.i64.wrap (t13 - 1)).toNat) * 4)) = some (.int .i64 x57)) rfl (gdY (b := (decide (0 < t13))) 30 rfl rfl hb54) (fun w hc => (o_load Try.isAgg3 rfl hc)) hc58 rfl ?_
              refine WQ_val rfl (gdY (b := (decide (0 < t13))) 30 rfl rfl hb54) (o_fieldAddr0 Try.underlying43 rfl Try.sizeOf3 rfl rfl rfl) rfl ?_
              obtain ⟨x59, hc60, h⟩ := h
              refine WQ_look (fun w => w.cell? p26 = some (.int .i64 x59)) rfl (gdY (b := (decide (0 < t13))) 30 rfl rfl hb54) (fun w hc => (o_load Try.isAgg3 rfl hc)) hc60 rfl ?_
              refine WQ_val rfl (gdY (b := (decide (0 < t13))) 30 rfl rfl hb54) (o_geq rfl rfl) rfl ?_
              refine WQ_val rfl (gdY (b := (decide (65535 < x51))) 27 rfl rfl hb53) (o_pickT (v := .bool (decide (x59 ≤ x57))) rfl hb54 rfl) rfl ?_
              refine WQ_val rfl gd0 (o_pickF (v := .bool (decide (x59 ≤ x57))) rfl hb53 rfl) rfl ?_
              refine WQ_val rfl gd0 (o_move (v := .bool (decide (x59 ≤ x57))) rfl) rfl ?_
              refine bsplit (decide (x59 ≤ x57)) (fun hb61 => ?_) (fun hb61 => ?_)
              · rw [if_pos (of_decide_eq_true hb61)] at h
                refine WQ_skip rfl (gdN (b := (decide (x59 ≤ x57))) 42 rfl rfl hb61) rfl ?_
                refine WQ_skip rfl (gdN (b := (decide (x59 ≤ x57))) 42 rfl rfl hb61) rfl ?_
                refine WQ_skip rfl (gdN (b := (decide (x59 ≤ x57))) 42 rfl rfl hb61) rfl ?_
                refine WQ_val rfl gd0 (o_pickT (v := .bool true) rfl hb61 rfl) rfl ?_
                refine WQ_val rfl gd0 (o_move (v := .bool true) rfl) rfl ?_
                refine WQ_skip rfl (gdN (b := true) 47 rfl rfl rfl) rfl ?_
                refine WQ_skip rfl (gdN (b := true) 47 rfl rfl rfl) rfl ?_
                refine WQ_skip rfl (gdN (b := true) 47 rfl rfl rfl) rfl ?_
                refine WQ_val rfl gd0 (o_pickT (v := .bool true) rfl rfl rfl) rfl ?_
                refine WQ_val rfl gd0 (o_move (v := .bool true) rfl) rfl ?_
                refine WQ_skip rfl (gdN (b := true) 52 rfl rfl rfl) rfl ?_
                refine WQ_skip rfl (gdN (b := true) 52 rfl rfl rfl) rfl ?_
                refine WQ_skip rfl (gdN (b := true) 52 rfl rfl rfl) rfl ?_
                refine WQ_passAct rfl (gdN (b := true) 52 rfl rfl rfl) rfl (by exact ⟨⟨⟨⟨trivial, depT (by kernel_rfl)⟩, depT (by kernel_rfl)⟩, depT (by kernel_rfl)⟩, depT (by kernel_rfl)⟩) ?_
                refine WQ_skip rfl (gdN (b := true) 52 rfl rfl rfl) rfl ?_
                refine WQ_val rfl gd0 (o_pickT (v := .bool true) rfl rfl rfl) rfl ?_
                refine WQ_nil ?_
                refine nrm ?_
                exact ⟨_, rfl, e0_8, e4_9, rfl, e12_10, e13_11, e14_12, h⟩
              · rw [if_neg (of_decide_eq_false hb61)] at h
                refine WQ_val rfl (gdY (b := (decide (x59 ≤ x57))) 42 rfl rfl hb61) (o_fieldAddr 1 Try.underlying43 rfl Try.sizeOf3 rfl rfl rfl) rfl ?_
                obtain ⟨x62, hc63, h⟩ := h
                refine WQ_look (fun w => w.cell? (p26.add 1) = some (.int .i64 x62)) rfl (gdY (b := (decide (x59 ≤ x57))) 42 rfl rfl hb61) (fun w hc => (o_load Try.isAgg3 rfl hc)) hc63 rfl ?_
                refine WQ_val rfl (gdY (b := (decide (x59 ≤ x57))) 42 rfl rfl hb61) (o_lss rfl rfl) rfl ?_
                refine WQ_val rfl gd0 (o_pickF (v := .bool (decide (x62 < 1))) rfl hb61 rfl) rfl ?_
                refine WQ_val rfl gd0 (o_move (v := .bool (decide (x62 < 1))) rfl) rfl ?_
                refine bsplit (decide (x62 < 1)) (fun hb64 => ?_) (fun hb64 => ?_)
                · rw [if_pos (of_decide_eq_true hb64)] at h
                  refine WQ_skip rfl (gdN (b := (decide (x62 < 1))) 47 rfl rfl hb64) rfl ?_
                  refine WQ_skip rfl (gdN (b := (decide (x62 < 1))) 47 rfl rfl hb64) rfl ?_
                  refine WQ_skip rfl (gdN (b := (decide (x62 < 1))) 47 rfl rfl hb64) rfl ?_
                  refine WQ_val rfl gd0 (o_pickT (v := .bool true) rfl hb64 rfl) rfl ?_
                  refine WQ_val rfl gd0 (o_move (v := .bool true) rfl) rfl ?_
                  refine WQ_skip rfl (gdN (b := true) 52 rfl rfl rfl) rfl ?_
                  refine WQ_skip rfl (gdN (b := true) 52 rfl rfl rfl) rfl ?_
                  refine WQ_skip rfl (gdN (b := true) 52 rfl rfl rfl) rfl ?_
                  refine WQ_passAct rfl (gdN (b := true) 52 rfl rfl rfl) rfl (by exact ⟨⟨⟨⟨⟨trivial, depT (by kernel_rfl)⟩, depT (by kernel_rfl)⟩, depT (by kernel_rfl)⟩, depT (by kernel_rfl)⟩, depT (by kernel_rfl)⟩) ?_
                  refine WQ_skip rfl (gdN (b := true) 52 rfl rfl rfl) rfl ?_
                  refine WQ_val rfl gd0 (o_pickT (v := .bool true) rfl rfl rfl) rfl ?_
                  refine WQ_nil ?_
                  refine nrm ?_
                  exact ⟨_, rfl, e0_8, e4_9, rfl, e12_10, e13_11, e14_12, h⟩
                · rw [if_neg (of_decide_eq_false hb64)] at h
                  refine WQ_val rfl (gdY (b := (decide (x62 < 1))) 47 rfl rfl hb64) (o_fieldAddr 1 Try.underlying43 rfl Try.sizeOf3 rfl rfl rfl) rfl ?_
                  obtain ⟨x65, hc66, h⟩ := h
                  refine WQ_look (fun w => w.cell? (p26.add 1) = some (.int .i64 x65)) rfl (gdY (b := (decide (x62 < 1))) 47 rfl rfl hb64) (fun w hc => (o_load Try.isAgg3 rfl hc)) hc66 rfl ?_
                  refine WQ_val rfl (gdY (b := (decide (x62 < 1))) 47 rfl rfl hb64) (o_gtr rfl rfl) rfl ?_
                  refine WQ_val rfl gd0 (o_pickF (v := .bool (decide (32 < x65))) rfl hb64 rfl) rfl ?_
                  refine WQ_val rfl gd0 (o_move (v := .bool (decide (32 < x65))) rfl) rfl ?_
                  refine bsplit (decide (32 < x65)) (fun hb67 => ?_) (fun hb67 => ?_)
                  · rw [if_pos (of_decide_eq_true hb67)] at h
                    refine WQ_skip rfl (gdN (b := (decide (32 < x65))) 52 rfl rfl hb67) rfl ?_
                    refine WQ_skip rfl (gdN (b := (decide (32 < x65))) 52 rfl rfl hb67) rfl ?_
                    refine WQ_skip rfl (gdN (b := (decide (32 < x65))) 52 rfl rfl hb67) rfl ?_
                    refine WQ_passAct rfl (gdN (b := (decide (32 < x65))) 52 rfl rfl hb67) rfl (by exact ⟨⟨⟨⟨⟨⟨trivial, depT (by kernel_rfl)⟩, depT (by kernel_rfl)⟩, depT (by kernel_rfl)⟩, depT (by kernel_rfl)⟩, depT (by kernel_rfl)⟩, depT (by kernel_rfl)⟩) ?_
                    refine WQ_skip rfl (gdN (b := (decide (32 < x65))) 52 rfl rfl hb67) rfl ?_
                    refine WQ_val rfl gd0 (o_pickT (v := .bool true) rfl hb67 rfl) rfl ?_
                    refine WQ_nil ?_
                    refine nrm ?_
                    exact ⟨_, rfl, e0_8, e4_9, rfl, e12_10, e13_11, e14_12, h⟩
                  · rw [if_neg (of_decide_eq_false hb67)] at h
                    obtain ⟨x68, x69, x70, x71, hc72, h⟩ := h
                    refine WQ_look (fun w => Cells w p26 0 [.int .i64 x68, .int .i64 x69, .bool x70, .int .i64 x71]) rfl (gdY (b := (decide (32 < x65))) 52 rfl rfl hb67) (fun w hc => (o_loadAgg (vs := [.int .i64 x68, .int .i64 x69, .bool x70, .int .i64 x71]) Try.isAgg43 Try.sizeOf43 rfl hc)) hc72 rfl ?_
                    refine WQ_val rfl (gdY (b := (decide (32 < x65))) 52 rfl rfl hb67) (o_fieldAddr 3 Try.underlying43 rfl Try.sizeOf3 rfl rfl rfl) rfl ?_
                    obtain ⟨x73, hc74, h⟩ := h
                    refine WQ_look (fun w => w.cell? (p26.add 3) = some (.int .i64 x73)) rfl (gdY (b := (decide (32 < x65))) 52 rfl rfl hb67) (fun w hc => (o_load Try.isAgg3 rfl hc)) hc74 rfl ?_
                    refine WQ_call rfl (gdY (b := (decide (32 < x65))) 52 rfl rfl hb67) (o_call Try.call34 (argCons rfl (argCons rfl argNil)) _) rfl (h.mono ?_)
                    rintro _ w75 ⟨x76, rfl, h⟩
                    refine ⟨⟨⟨⟨⟨⟨⟨⟨⟨trivial, depT (by kernel_rfl)⟩, depT (by kernel_rfl)⟩, depT (by kernel_rfl)⟩, depT (by kernel_rfl)⟩, depT (by kernel_rfl)⟩, depT (by kernel_rfl)⟩, depT (by kernel_rfl)⟩, depT (by kernel_rfl)⟩, ?_⟩
                    refine WQ_val rfl (gdY (b := (decide (32 < x65))) 52 rfl rfl hb67) (o_not rfl) rfl ?_
                    refine WQ_val rfl gd0 (o_pickF (v := .bool (!x76)) rfl hb67 rfl) rfl ?_
                    refine WQ_nil ?_
                    refine nrm ?_
                    exact ⟨_, rfl, e0_8, e4_9, rfl, e12_10, e13_11, e14_12, h⟩
            · rw [if_neg (of_decide_eq_false hb54)] at h
              refine WQ_skip rfl (gdN (b := (decide (0 < t13))) 30 rfl rfl hb54) rfl ?_
              refine WQ_skip rfl (gdN (b := (decide (0 < t13))) 30 rfl rfl hb54) rfl ?_
              refine WQ_skip rfl (gdN (b := (decide (0 < t13))) 30 rfl rfl hb54) rfl ?_
              refine WQ_skip rfl (gdN (b := (decide (0 < t13))) 30 rfl rfl hb54) rfl ?_
              refine WQ_skip rfl (gdN (b := (decide (0 < t13))) 30 rfl rfl hb54) rfl ?_
              refine WQ_skip rfl (gdN (b := (decide (0 < t13))) 30 rfl rfl hb54) rfl ?_
              refine WQ_skip rfl (gdN (b := (decide (0 < t13))) 30 rfl rfl hb54) rfl ?_
              refine WQ_skip rfl (gdN (b := (decide (0 < t13))) 30 rfl rfl hb54) rfl ?_
              refine WQ_skip rfl (gdN (b := (decide (0 < t13))) 30 rfl rfl hb54) rfl ?_
              refine WQ_val rfl (gdY (b := (decide (65535 < x51))) 27 rfl rfl hb53) (o_pickF (v := .bool false) rfl hb54 rfl) rfl ?_
              refine WQ_val rfl gd0 (o_pickF (v := .bool false) rfl hb53 rfl) rfl ?_
              refine WQ_val rfl gd0 (o_move (v := .bool false) rfl) rfl ?_
              refine WQ_val rfl (gdY (b := false) 42 rfl rfl rfl) (o_fieldAddr 1 Try.underlying43 rfl Try.sizeOf3 rfl rfl rfl) rfl ?_
              obtain ⟨x77, hc78, h⟩ := h
              refine WQ_look (fun w => w.cell? (p26.add 1) = some (.int .i64 x77)) rfl (gdY (b := false) 42 rfl rfl rfl) (fun w hc => (o_load Try.isAgg3 rfl hc)) hc78 rfl ?_
              refine WQ_val rfl (gdY (b := false) 42 rfl rfl rfl) (o_lss rfl rfl) rfl ?_
              refine WQ_val rfl gd0 (o_pickF (v := .bool (decide (x77 < 1))) rfl rfl rfl) rfl ?_
              refine WQ_val rfl gd0 (o_move (v := .bool (decide (x77 < 1))) rfl) rfl ?_
              refine bsplit (decide (x77 < 1)) (fun hb79 => ?_) (fun hb79 => ?_)
              · rw [if_pos (of_decide_eq_true hb79)] at h
                refine WQ_skip rfl (gdN (b := (decide (x77 < 1))) 47 rfl rfl hb79) rfl ?_
                refine WQ_skip rfl (gdN (b := (decide (x77 < 1))) 47 rfl rfl hb79) rfl ?_
                refine WQ_skip rfl (gdN (b := (decide (x77 < 1))) 47 rfl rfl hb79) rfl ?_
                refine WQ_val rfl gd0 (o_pickT (v := .bool true) rfl hb79 rfl) rfl ?_
                refine WQ_val rfl gd0 (o_move (v := .bool true) rfl) rfl ?_
                refine WQ_skip rfl (gdN (b := true) 52 rfl rfl rfl) rfl ?_
                refine WQ_skip rfl (gdN (b := true) 52 rfl rfl rfl) rfl ?_
                refine WQ_skip rfl (gdN (b := true) 52 rfl rfl rfl) rfl ?_
                refine WQ_passAct rfl (gdN (b := true) 52 rfl rfl rfl) rfl (by exact ⟨⟨⟨trivial, depT (by kernel_rfl)⟩, depT (by kernel_rfl)⟩, depT (by kernel_rfl)⟩) ?_
                refine WQ_skip rfl (gdN (b := true) 52 rfl rfl rfl) rfl ?_
                refine WQ_val rfl gd0 (o_pickT (v := .bool true) rfl rfl rfl) rfl ?_
                refine WQ_nil ?_
                refine nrm ?_
                exact ⟨_, rfl, e0_8, e4_9, rfl, e12_10, e13_11, e14_12, h⟩
              · rw [if_neg (of_decide_eq_false hb79)] at h
                refine WQ_val rfl (gdY (b := (decide (x77 < 1))) 47 rfl rfl hb79) (o_fieldAddr 1 Try.underlying43 rfl Try.sizeOf3 rfl rfl rfl) rfl ?_
                obtain ⟨x80, hc81, h⟩ := h
                refine WQ_look (fun w => w.cell? (p26.add 1) = some (.int .i64 x80)) rfl (gdY (b := (decide (x77 < 1))) 47 rfl rfl hb79) (fun w hc => (o_load Try.isAgg3 rfl hc)) hc81 rfl ?_
                refine WQ_val rfl (gdY (b := (decide (x77 < 1))) 47 rfl rfl hb79) (o_gtr rfl rfl) rfl ?_
                refine WQ_val rfl gd0 (o_pickF (v := .bool (decide (32 < x80))) rfl hb79 rfl) rfl ?_
                refine WQ_val rfl gd0 (o_move (v := .bool (decide (32 < x80))) rfl) rfl ?_
                refine bsplit (decide (32 < x80)) (fun hb82 => ?_) (fun hb82 => ?_)
                · rw [if_pos (of_decide_eq_true hb82)] at h
                  refine WQ_skip rfl (gdN (b := (decide (32 < x80))) 52 rfl rfl hb82) rfl ?_
                  refine WQ_skip rfl (gdN (b := (decide (32 < x80))) 52 rfl rfl hb82) rfl ?_
                  refine WQ_skip rfl (gdN (b := (decide (32 < x80))) 52 rfl rfl hb82) rfl ?_
                  refine WQ_passAct rfl (gdN (b := (decide (32 < x80))) 52 rfl rfl hb82) rfl (by exact ⟨⟨⟨⟨trivial, depT (by kernel_rfl)⟩, depT (by kernel_rfl)⟩, depT (by kernel_rfl)⟩, depT (by kernel_rfl)⟩) ?_
                  refine WQ_skip rfl (gdN (b := (decide (32 < x80))) 52 rfl rfl hb82) rfl ?_
                  refine WQ_val rfl gd0 (o_pickT (v := .bool true) rfl hb82 rfl) rfl ?_
                  refine WQ_nil ?_
                  refine nrm ?_
                  exact ⟨_, rfl, e0_8, e4_9, rfl, e12_10, e13_11, e14_12, h⟩
                · rw [if_neg (of_decide_eq_false hb82)] at h
                  obtain ⟨x83, x84, x85, x86, hc87, h⟩ := h
                  refine WQ_look (fun w => Cells w p26 0 [.int .i64 x83, .int .i64 x84, .bool x85, .int .i64 x86]) rfl (gdY (b := (decide (32 < x80))) 52 rfl rfl hb82) (fun w hc => (o_loadAgg (vs := [.int .i64 x83, .int .i64 x84, .bool x85, .int .i64 x86]) Try.isAgg43 Try.sizeOf43 rfl hc)) hc87 rfl ?_
                  refine WQ_val rfl (gdY (b := (decide (32 < x80))) 52 rfl rfl hb82) (o_fieldAddr 3 Try.underlying43 rfl Try.sizeOf3 rfl rfl rfl) rfl ?_
                  obtain ⟨x88, hc89, h⟩ := h
                  refine WQ_look (fun w => w.cell? (p26.add 3) = some (.int .i64 x88)) rfl (gdY (b := (decide (32 < x80))) 52 rfl rfl hb82) (fun w hc => (o_load Try.isAgg3 rfl hc)) hc89 rfl ?_
                  refine WQ_call rfl (gdY (b := (decide (32 < x80))) 52 rfl rfl hb82) (o_call Try.call34 (argCons rfl (argCons rfl argNil)) _) rfl (h.mono ?_)
                  rintro _ w90 ⟨x91, rfl, h⟩
                  refine ⟨⟨⟨⟨⟨⟨⟨trivial, depT (by kernel_rfl)⟩, depT (by kernel_rfl)⟩, depT (by kernel_rfl)⟩, depT (by kernel_rfl)⟩, depT (by kernel_rfl)⟩, depT (by kernel_rfl)⟩, ?_⟩
                  refine WQ_val rfl (gdY (b := (decide (32 < x80))) 52 rfl rfl hb82) (o_not rfl) rfl ?_
                  refine WQ_val rfl gd0 (o_pickF (v := .bool (!x91)) rfl hb82 rfl) rfl ?_
                  refine WQ_nil ?_
                  refine nrm ?_
                  exact ⟨_, rfl, e0_8, e4_9, rfl, e12_10, e13_11, e14_12, h⟩
      · rintro ρ w38 ⟨t37, e58_36, e0_30, e4_31, e6_32, e12_33, e13_34, e14_35, h⟩
        unfold F13_j2 at h
        refine WC_cond (t := t37) (by exact e58_36) (fun hb39 => ?_) (fun hb39 => ?_)
        · rw [if_pos hb39] at h
          refine WC_seq ?_
          refine WC_region ?_
          refine WL_val gd0 ((o_assign (v := .pointer none) rfl) _) rfl ?_
          refine WL_val gd0 ((o_assign (v := .int .i64 1) rfl) _) rfl ?_
          refine WL_nil ?_
          refine nrm ?_
          refine WC_ret ?_
          refine rtT ?_
          refine rtB ?_
          refine rtT ?_
          refine rtT ?_
          refine rtB ?_
          refine rtT ?_
          refine rtE ?_
          exact gv2 rfl rfl rfl h
        · rw [if_neg (neT hb39)] at h
          refine WC_skip ?_
          refine nrm ?_
          refine WC_draws [6] (.look 0 (.look 1 (.look 2 (.look 3 (.look 4 (.look 5 (.act 6 .nil))))))) Try.mixed (by kernel_rfl) ?_
          refine WQ_val rfl gd0 (o_move (v := .pointer (some p6)) (by exact e4_31)) rfl ?_
          refine WQ_val rfl gd0 (o_nilCheck rfl) rfl ?_
          refine WQ_val rfl gd0 (o_fieldAddr 1 Try.underlying64 rfl Try.sizeOf62 rfl rfl rfl) rfl ?_
          refine WQ_val rfl gd0 (o_fieldAddr0 Try.underlying43 rfl Try.sizeOf3 rfl rfl (by exact e6_32)) rfl ?_
          obtain ⟨x40, hc41, h⟩ := h
          refine WQ_look (fun w => w.cell? p26 = some (.int .i64 x40)) rfl gd0 (fun w hc => (o_load Try.isAgg3 rfl hc)) hc41 rfl ?_
          obtain ⟨x42, x43, x44, x45, hc46, h⟩ := h
          refine WQ_look (fun w => Cells w p26 0 [.int .i64 x42, .int .i64 x43, .bool x44, .int .i64 x45]) rfl gd0 (fun w hc => (o_loadAgg (vs := [.int .i64 x42, .int .i64 x43, .bool x44, .int .i64 x45]) Try.isAgg43 Try.sizeOf43 (by exact e6_32) hc)) hc46 rfl ?_
          refine WQ_call rfl gd0 (o_call Try.call35 (argCons rfl (argCons rfl (argCons rfl argNil))) _) rfl (h.mono ?_)
          rintro _ w47 ⟨rfl, h⟩
          refine ⟨⟨⟨trivial, depT (by kernel_rfl)⟩, depT (by kernel_rfl)⟩, ?_⟩
          refine WQ_nil ?_
          refine nrmB ?_
          refine nrm ?_
          refine WC_region ?_
          refine WL_val gd0 ((o_add (by exact e14_35) rfl) _) rfl ?_
          refine WL_val gd0 ((o_move (v := .int .i64 (IntKind.i64.wrap (t13 + 1))) rfl) _) rfl ?_
          refine WL_nil ?_
          refine nrm ?_
          obtain ⟨m15, hm15, h⟩ := h
          exact ⟨m15, hm15, _, rfl, e0_30, e4_31, e12_33, e13_34, h⟩
    · rw [if_neg (of_decide_eq_false hb16)] at h
      refine WC_exit ?_
      refine exT ?_
      refine exT ?_
      refine exB ?_
      refine nrm ?_
      refine WC_seq ?_
      refine WC_region ?_
      refine WL_val gd0 ((o_move (v := .pointer (some p6)) (by exact e4_9)) _) rfl ?_
      refine WL_val gd0 ((o_assign (v := .pointer (some p6)) rfl) _) rfl ?_
      refine WL_val gd0 ((o_assign (v := .int .i64 0) rfl) _) rfl ?_
      refine WL_nil ?_
      refine nrm ?_
      refine WC_ret ?_
      refine rtE ?_
      exact gv2 rfl rfl rfl h

def F14_b1 (r_n8 : Nat) (r_a7 : Option Addr) (w13 : Option Addr) (t18 : Int) (w19 : World) (nx19 : Int → World → Prop) (k : Value → World → Prop) : Prop :=
  if t18 < (r_n8 : Int) then
  ∃ (p24 : Addr), r_a7 = some p24 ∧ (0 : Int) ≤ t18 ∧ t18 < (r_n8 : Int) ∧ ∃ (x26 x27 : Int) (x28 : Bool) (x29 : Int), Cells w19 (p24.add (t18.toNat * 4)) 0 [.int .i64 x26, .int .i64 x27, .bool x28, .int .i64 x29] ∧ New w19 43 [.int .i64 0, .int .i64 0, .bool false, .int .i64 0] (fun p31 w32 => PutAll w32 p31 [.int .i64 x26, .int .i64 x27, .bool x28, .int .i64 x29] (fun w33 => ∃ (x35 : Int), w33.cell? (p31.add 3) = some (.int .i64 x35) ∧ ∃ (x37 : Int), w33.cell? (p31.add 1) = some (.int .i64 x37) ∧ Does Try.prog 37 #[.pointer w13, .int .u64 (IntKind.u64.wrap x35), .int .i64 x37] w33 (fun v w39 => ∃ (x40 : Option Addr), v = .pointer x40 ∧ nx19 (IntKind.i64.wrap (t18 + 1)) w39)))
else
  Does Try.prog 38 #[.pointer w13] w19 (fun v w41 => ∃ (t_a42 : Option Addr) (t_n43 t_c44 : Nat), v = .slice t_a42 t_n43 t_c44 ∧ k (.tuple #[.slice t_a42 t_n43 t_c44, .int .i64 0]) w41)
/-- (*spacecraft params.Pool).Pack -/
def F14 (p1 : Option Addr) (ids_a2 : Option Addr) (ids_n3 : Nat) (ids_c4 : Nat) (w5 : World) (k : Value → World → Prop) : Prop :=
  Does Try.prog 25 #[.pointer p1, .slice ids_a2 ids_n3 ids_c4] w5 (fun v w6 => ∃ (r_a7 : Option Addr) (r_n8 r_c9 : Nat) (r10 : Int), v = .tuple #[.slice r_a7 r_n8 r_c9, .int .i64 r10] ∧ if r10 ≠ 0 then
  k (.tuple #[.slice none 0 0, .int .i64 r10]) w6
else
  Does Try.prog 36 #[] w6 (fun v w12 => ∃ (w13 : Option Addr), v = .pointer w13 ∧ LoopP (fun (s : Int) w' nx' => F14_b1 r_n8 r_a7 w13 s w' (fun x0 w => nx' x0 w) k) 0 w12))
set_option maxRecDepth 100000 in
set_option maxHeartbeats 2000000 in
theorem w14 (p1 : Option Addr) (ids_a2 : Option Addr) (ids_n3 : Nat) (ids_c4 : Nat) (w5 : World) (k : Value → World → Prop) (h : F14 p1 ids_a2 ids_n3 ids_c4 w5 k) : Does Try.prog 14 #[.pointer p1, .slice ids_a2 ids_n3 ids_c4] w5 k := by
  refine enter 37 Try.func14 rfl rfl rfl ?_
  intro ρ hρ
  have e0 := hρ 0 _ rfl
  have e1 := hρ 1 _ rfl
  unfold F14 at h
  refine WC_seq ?_
  refine WC_region ?_
  refine WL_val gd0 ((o_assign (v := .slice none 0 0) rfl) _) rfl ?_
  refine WL_val gd0 ((o_assign (v := .int .i64 0) rfl) _) rfl ?_
  refine WL_nil ?_
  refine nrm ?_
  refine WC_seq ?_
  refine WC_region ?_
  refine WL_val gd0 ((o_move (v := .pointer p1) (by exact e0)) _) rfl ?_
  refine WL_val gd0 ((o_move (v := .slice ids_a2 ids_n3 ids_c4) (by exact e1)) _) rfl ?_
  refine WL_call gd0 (o_call Try.call25 (argCons rfl (argCons rfl argNil)) _) rfl (h.mono ?_)
  rintro _ w6 ⟨r_a7, r_n8, r_c9, r10, rfl, h⟩
  refine WL_val gd0 ((o_move (v := .tuple #[.slice r_a7 r_n8 r_c9, .int .i64 r10]) rfl) _) rfl ?_
  refine WL_val gd0 ((o_extract (vs := [.slice r_a7 r_n8 r_c9, .int .i64 r10]) (r := .slice r_a7 r_n8 r_c9) rfl rfl) _) rfl ?_
  refine WL_val gd0 ((o_extract (vs := [.slice r_a7 r_n8 r_c9, .int .i64 r10]) (r := .int .i64 r10) rfl rfl) _) rfl ?_
  refine WL_val gd0 ((o_assign (v := .slice r_a7 r_n8 r_c9) rfl) _) rfl ?_
  refine WL_val gd0 ((o_assign (v := .int .i64 r10) rfl) _) rfl ?_
  refine WL_nil ?_
  refine nrm ?_
  refine WC_seq ?_
  refine WC_seq ?_
  refine WC_region ?_
  refine WL_val gd0 ((o_move (v := .int .i64 r10) rfl) _) rfl ?_
  refine WL_val gd0 ((o_neq rfl rfl) _) rfl ?_
  refine WL_nil ?_
  refine nrm ?_
  refine WC_cond (t := (decide (r10 ≠ 0))) rfl (fun hb11 => ?_) (fun hb11 => ?_)
  · rw [if_pos (of_decide_eq_true hb11)] at h
    refine WC_seq ?_
    refine WC_region ?_
    refine WL_val gd0 ((o_move (v := .int .i64 r10) rfl) _) rfl ?_
    refine WL_val gd0 ((o_assign (v := .slice none 0 0) rfl) _) rfl ?_
    refine WL_val gd0 ((o_assign (v := .int .i64 r10) rfl) _) rfl ?_
    refine WL_nil ?_
    refine nrm ?_
    refine WC_ret ?_
    refine rtT ?_
    refine rtE ?_
    exact gv2 rfl rfl rfl h
  · rw [if_neg (of_decide_eq_false hb11)] at h
    refine WC_skip ?_
    refine nrm ?_
    refine WC_seq ?_
    refine WC_region ?_
    refine WL_call gd0 (o_call Try.call36 argNil _) rfl (h.mono ?_)
    rintro _ w12 ⟨w13, rfl, h⟩
    refine WL_val gd0 ((o_assign (v := .pointer w13) rfl) _) rfl ?_
    refine WL_nil ?_
    refine nrm ?_
    refine WC_seq ?_
    refine WC_seq ?_
    refine WC_region ?_
    refine WL_val gd0 ((o_move (v := .slice r_a7 r_n8 r_c9) rfl) _) rfl ?_
    refine WL_val gd0 ((o_len Try.underlying22 rfl) _) rfl ?_
    refine WL_val gd0 ((o_move (v := .int .i64 0) rfl) _) rfl ?_
    refine WL_nil ?_
    refine nrm ?_
    refine WC_block ?_
    obtain ⟨J19, ⟨n19, h0⟩, hr19⟩ := h
    refine WC_loop (fun n ρ w' => ∃ (t18 : Int), ρ 23 = .int .i64 t18 ∧ ρ 8 = .pointer w13 ∧ ρ 21 = .slice r_a7 r_n8 r_c9 ∧ ρ 22 = .int .i64 (r_n8 : Int) ∧ J19 n t18 w') ⟨n19, _, rfl, rfl, rfl, rfl, h0⟩ ?_
    rintro n19 ρ w19 ⟨t18, e23_17, e8_14, e21_15, e22_16, h⟩
    have h : F14_b1 r_n8 r_a7 w13 t18 w19 (fun x0 w => ∃ m, m < n19 ∧ J19 m x0 w) k := hr19 n19 t18 w19 h
    unfold F14_b1 at h
    refine WC_seq ?_
    refine WC_region ?_
    refine WL_val gd0 ((o_lss (by exact e23_17) (by exact e22_16)) _) rfl ?_
    refine WL_nil ?_
    refine nrm ?_
    refine WC_seq ?_
    refine WC_cond (t := (decide (t18 < (r_n8 : Int)))) rfl (fun hb21 => ?_) (fun hb21 => ?_)
    · rw [if_pos (of_decide_eq_true hb21)] at h
      refine WC_skip ?_
      refine nrm ?_
      refine WC_seq ?_
      refine WC_block ?_
      refine WC_seq ?_
      refine WC_region ?_
      obtain ⟨p24, q25, h⟩ := h
      obtain ⟨l22, u23, h⟩ := h
      refine WL_val gd0 ((o_indexAddr Try.underlying22 Try.sizeOf43 (by exact (Eq.trans e21_15 (congrArg (fun z => Value.slice z r_n8 r_c9) q25))) (by exact e23_17) l22 u23) _) rfl ?_
      obtain ⟨x26, x27, x28, x29, hc30, h⟩ := h
      refine WL_val gd0 (o_loadAgg (vs := [.int .i64 x26, .int .i64 x27, .bool x28, .int .i64 x29]) Try.isAgg43 Try.sizeOf43 rfl hc30) rfl ?_
      have h := New.out h
      refine WL_val gd0 (o_alloc (z := .agg #[.int .i64 0, .int .i64 0, .bool false, .int .i64 0]) (cs := [.int .i64 0, .int .i64 0, .bool false, .int .i64 0]) Try.zeroValue43 rfl) rfl ?_
      generalize hp31 : fresh w19 = p31 at h ⊢
      generalize hw32 : push w19 43 [.int .i64 0, .int .i64 0, .bool false, .int .i64 0] = w32 at h ⊢
      try dsimp only at h
      obtain ⟨c34, h⟩ := h
      refine WL_act gd0 (o_storeAgg (vs := [.int .i64 x26, .int .i64 x27, .bool x28, .int .i64 x29]) Try.sizeOf43 rfl rfl rfl c34) ?_
      generalize hw33 : setAll w32 p31 0 [.int .i64 x26, .int .i64 x27, .bool x28, .int .i64 x29] = w33 at h ⊢
      try dsimp only at h
      refine WL_nil ?_
      refine nrm ?_
      refine WC_region ?_
      refine WL_val gd0 ((o_move (v := .pointer w13) (by exact e8_14)) _) rfl ?_
      refine WL_val gd0 ((o_fieldAddr 3 Try.underlying43 rfl Try.sizeOf3 rfl rfl rfl) _) rfl ?_
      obtain ⟨x35, hc36, h⟩ := h
      refine WL_val gd0 (o_load Try.isAgg3 rfl hc36) rfl ?_
      refine WL_val gd0 ((o_conv Try.underlying3 Try.underlying72 rfl) _) rfl ?_
      refine WL_val gd0 ((o_fieldAddr 1 Try.underlying43 rfl Try.sizeOf3 rfl rfl rfl) _) rfl ?_
      obtain ⟨x37, hc38, h⟩ := h
      refine WL_val gd0 (o_load Try.isAgg3 rfl hc38) rfl ?_
      refine WL_call gd0 (o_call Try.call37 (argCons rfl (argCons rfl (argCons rfl argNil))) _) rfl (h.mono ?_)
      rintro _ w39 ⟨x40, rfl, h⟩
      refine WL_nil ?_
      refine nrmB ?_
      refine nrm ?_
      refine WC_region ?_
      refine WL_val gd0 ((o_add (by exact e23_17) rfl) _) rfl ?_
      refine WL_val gd0 ((o_move (v := .int .i64 (IntKind.i64.wrap (t18 + 1))) rfl) _) rfl ?_
      refine WL_nil ?_
      refine nrm ?_
      obtain ⟨m20, hm20, h⟩ := h
      exact ⟨m20, hm20, _, rfl, e8_14, e21_15, e22_16, h⟩
    · rw [if_neg (of_decide_eq_false hb21)] at h
      refine WC_exit ?_
      refine exT ?_
      refine exT ?_
      refine exB ?_
      refine nrm ?_
      refine WC_seq ?_
      refine WC_region ?_
      refine WL_val gd0 ((o_move (v := .pointer w13) (by exact e8_14)) _) rfl ?_
      refine WL_call gd0 (o_call Try.call38 (argCons rfl argNil) _) rfl (h.mono ?_)
      rintro _ w41 ⟨t_a42, t_n43, t_c44, rfl, h⟩
      refine WL_val gd0 ((o_assign (v := .slice t_a42 t_n43 t_c44) rfl) _) rfl ?_
      refine WL_val gd0 ((o_assign (v := .int .i64 0) rfl) _) rfl ?_
      refine WL_nil ?_
      refine nrm ?_
      refine WC_ret ?_
      refine rtE ?_
      exact gv2 rfl rfl rfl h

/-- (*spacecraft params.Pool).Get -/
def F15 (p1 : Option Addr) (id2 : Int) (w3 : World) (k : Value → World → Prop) : Prop :=
  Does Try.prog 39 #[.pointer p1, .int .i64 id2] w3 (fun v w4 => ∃ (r5 : Option Addr) (r6 : Int), v = .tuple #[.pointer r5, .int .i64 r6] ∧ if r6 ≠ 0 then
  k (.tuple #[.int .i64 0, .int .i64 r6]) w4
else
  ∃ (p8 : Addr), r5 = some p8 ∧ ∃ (t10 : Int), w4.cell? (p8.add 3) = some (.int .i64 t10) ∧ k (.tuple #[.int .i64 t10, .int .i64 0]) w4)
set_option maxRecDepth 100000 in
set_option maxHeartbeats 2000000 in
theorem w15 (p1 : Option Addr) (id2 : Int) (w3 : World) (k : Value → World → Prop) (h : F15 p1 id2 w3 k) : Does Try.prog 15 #[.pointer p1, .int .i64 id2] w3 k := by
  refine enter 21 Try.func15 rfl rfl rfl ?_
  intro ρ hρ
  have e0 := hρ 0 _ rfl
  have e1 := hρ 1 _ rfl
  unfold F15 at h
  refine WC_seq ?_
  refine WC_region ?_
  refine WL_val gd0 ((o_assign (v := .int .i64 0) rfl) _) rfl ?_
  refine WL_val gd0 ((o_assign (v := .int .i64 0) rfl) _) rfl ?_
  refine WL_nil ?_
  refine nrm ?_
  refine WC_seq ?_
  refine WC_region ?_
  refine WL_val gd0 ((o_move (v := .pointer p1) (by exact e0)) _) rfl ?_
  refine WL_val gd0 ((o_move (v := .int .i64 id2) (by exact e1)) _) rfl ?_
  refine WL_call gd0 (o_call Try.call39 (argCons rfl (argCons rfl argNil)) _) rfl (h.mono ?_)
  rintro _ w4 ⟨r5, r6, rfl, h⟩
  refine WL_val gd0 ((o_move (v := .tuple #[.pointer r5, .int .i64 r6]) rfl) _) rfl ?_
  refine WL_val gd0 ((o_extract (vs := [.pointer r5, .int .i64 r6]) (r := .pointer r5) rfl rfl) _) rfl ?_
  refine WL_val gd0 ((o_extract (vs := [.pointer r5, .int .i64 r6]) (r := .int .i64 r6) rfl rfl) _) rfl ?_
  refine WL_val gd0 ((o_assign (v := .pointer r5) rfl) _) rfl ?_
  refine WL_val gd0 ((o_assign (v := .int .i64 r6) rfl) _) rfl ?_
  refine WL_nil ?_
  refine nrm ?_
  refine WC_seq ?_
  refine WC_seq ?_
  refine WC_region ?_
  refine WL_val gd0 ((o_move (v := .int .i64 r6) rfl) _) rfl ?_
  refine WL_val gd0 ((o_neq rfl rfl) _) rfl ?_
  refine WL_nil ?_
  refine nrm ?_
  refine WC_cond (t := (decide (r6 ≠ 0))) rfl (fun hb7 => ?_) (fun hb7 => ?_)
  · rw [if_pos (of_decide_eq_true hb7)] at h
    refine WC_seq ?_
    refine WC_region ?_
    refine WL_val gd0 ((o_move (v := .int .i64 r6) rfl) _) rfl ?_
    refine WL_val gd0 ((o_assign (v := .int .i64 0) rfl) _) rfl ?_
    refine WL_val gd0 ((o_assign (v := .int .i64 r6) rfl) _) rfl ?_
    refine WL_nil ?_
    refine nrm ?_
    refine WC_ret ?_
    refine rtT ?_
    refine rtE ?_
    exact gv2 rfl rfl rfl h
  · rw [if_neg (of_decide_eq_false hb7)] at h
    refine WC_skip ?_
    refine nrm ?_
    refine WC_seq ?_
    refine WC_region ?_
    refine WL_val gd0 ((o_move (v := .pointer r5) rfl) _) rfl ?_
    obtain ⟨p8, q9, h⟩ := h
    refine WL_val gd0 ((o_nilCheck (by exact (congrArg Value.pointer q9))) _) rfl ?_
    refine WL_val gd0 ((o_fieldAddr 3 Try.underlying43 rfl Try.sizeOf3 rfl rfl rfl) _) rfl ?_
    obtain ⟨t10, hc11, h⟩ := h
    refine WL_val gd0 (o_load Try.isAgg3 rfl hc11) rfl ?_
    refine WL_val gd0 ((o_assign (v := .int .i64 t10) rfl) _) rfl ?_
    refine WL_val gd0 ((o_assign (v := .int .i64 0) rfl) _) rfl ?_
    refine WL_nil ?_
    refine nrm ?_
    refine WC_ret ?_
    refine rtE ?_
    exact gv2 rfl rfl rfl h

/-- (*spacecraft params.Pool).Set -/
def F16 (p1 : Option Addr) (id2 : Int) (v3 : Int) (w4 : World) (k : Value → World → Prop) : Prop :=
  Does Try.prog 39 #[.pointer p1, .int .i64 id2] w4 (fun v w5 => ∃ (r6 : Option Addr) (r7 : Int), v = .tuple #[.pointer r6, .int .i64 r7] ∧ if r7 ≠ 0 then
  k (.int .i64 r7) w5
else
  ∃ (p9 : Addr), r6 = some p9 ∧ ∃ (x11 x12 : Int) (x13 : Bool) (x14 : Int), Cells w5 p9 0 [.int .i64 x11, .int .i64 x12, .bool x13, .int .i64 x14] ∧ Does Try.prog 34 #[.agg #[.int .i64 x11, .int .i64 x12, .bool x13, .int .i64 x14], .int .i64 v3] w5 (fun v w16 => ∃ (x17 : Bool), v = .bool x17 ∧ if (!x17) = true then
    k (.int .i64 1) w16
  else
    Put w16 (p9.add 3) (.int .i64 v3) (fun w19 => k (.int .i64 0) w19)))
set_option maxRecDepth 100000 in
set_option maxHeartbeats 2000000 in
theorem w16 (p1 : Option Addr) (id2 : Int) (v3 : Int) (w4 : World) (k : Value → World → Prop) (h : F16 p1 id2 v3 w4 k) : Does Try.prog 16 #[.pointer p1, .int .i64 id2, .int .i64 v3] w4 k := by
  refine enter 28 Try.func16 rfl rfl rfl ?_
  intro ρ hρ
  have e0 := hρ 0 _ rfl
  have e1 := hρ 1 _ rfl
  have e2 := hρ 2 _ rfl
  unfold F16 at h
  refine WC_seq ?_
  refine WC_region ?_
  refine WL_val gd0 ((o_assign (v := .int .i64 0) rfl) _) rfl ?_
  refine WL_nil ?_
  refine nrm ?_
  refine WC_seq ?_
  refine WC_region ?_
  refine WL_val gd0 ((o_move (v := .pointer p1) (by exact e0)) _) rfl ?_
  refine WL_val gd0 ((o_move (v := .int .i64 id2) (by exact e1)) _) rfl ?_
  refine WL_call gd0 (o_call Try.call39 (argCons rfl (argCons rfl argNil)) _) rfl (h.mono ?_)
  rintro _ w5 ⟨r6, r7, rfl, h⟩
  refine WL_val gd0 ((o_move (v := .tuple #[.pointer r6, .int .i64 r7]) rfl) _) rfl ?_
  refine WL_val gd0 ((o_extract (vs := [.pointer r6, .int .i64 r7]) (r := .pointer r6) rfl rfl) _) rfl ?_
  refine WL_val gd0 ((o_extract (vs := [.pointer r6, .int .i64 r7]) (r := .int .i64 r7) rfl rfl) _) rfl ?_
  refine WL_val gd0 ((o_assign (v := .pointer r6) rfl) _) rfl ?_
  refine WL_val gd0 ((o_assign (v := .int .i64 r7) rfl) _) rfl ?_
  refine WL_nil ?_
  refine nrm ?_
  refine WC_seq ?_
  refine WC_seq ?_
  refine WC_region ?_
  refine WL_val gd0 ((o_move (v := .int .i64 r7) rfl) _) rfl ?_
  refine WL_val gd0 ((o_neq rfl rfl) _) rfl ?_
  refine WL_nil ?_
  refine nrm ?_
  refine WC_cond (t := (decide (r7 ≠ 0))) rfl (fun hb8 => ?_) (fun hb8 => ?_)
  · rw [if_pos (of_decide_eq_true hb8)] at h
    refine WC_seq ?_
    refine WC_region ?_
    refine WL_val gd0 ((o_move (v := .int .i64 r7) rfl) _) rfl ?_
    refine WL_val gd0 ((o_assign (v := .int .i64 r7) rfl) _) rfl ?_
    refine WL_nil ?_
    refine nrm ?_
    refine WC_ret ?_
    refine rtT ?_
    refine rtE ?_
    exact gv1 rfl rfl h
  · rw [if_neg (of_decide_eq_false hb8)] at h
    refine WC_skip ?_
    refine nrm ?_
    refine WC_seq ?_
    refine WC_seq ?_
    refine WC_region ?_
    refine WL_val gd0 ((o_move (v := .pointer r6) rfl) _) rfl ?_
    obtain ⟨p9, q10, h⟩ := h
    refine WL_val gd0 ((o_nilCheck (by exact (congrArg Value.pointer q10))) _) rfl ?_
    obtain ⟨x11, x12, x13, x14, hc15, h⟩ := h
    refine WL_val gd0 (o_loadAgg (vs := [.int .i64 x11, .int .i64 x12, .bool x13, .int .i64 x14]) Try.isAgg43 Try.sizeOf43 rfl hc15) rfl ?_
    refine WL_val gd0 ((o_move (v := .int .i64 v3) (by exact e2)) _) rfl ?_
    refine WL_call gd0 (o_call Try.call34 (argCons rfl (argCons rfl argNil)) _) rfl (h.mono ?_)
    rintro _ w16 ⟨x17, rfl, h⟩
    refine WL_val gd0 ((o_not rfl) _) rfl ?_
    refine WL_nil ?_
    refine nrm ?_
    refine WC_cond (t := (!x17)) rfl (fun hb18 => ?_) (fun hb18 => ?_)
    · rw [if_pos hb18] at h
      refine WC_seq ?_
      refine WC_region ?_
      refine WL_val gd0 ((o_assign (v := .int .i64 1) rfl) _) rfl ?_
      refine WL_nil ?_
      refine nrm ?_
      refine WC_ret ?_
      refine rtT ?_
      refine rtE ?_
      exact gv1 rfl rfl h
    · rw [if_neg (neT hb18)] at h
      refine WC_skip ?_
      refine nrm ?_
      refine WC_seq ?_
      refine WC_region ?_
      refine WL_val gd0 ((o_move (v := .pointer r6) rfl) _) rfl ?_
      refine WL_val gd0 ((o_move (v := .int .i64 v3) (by exact e2)) _) rfl ?_
      refine WL_val gd0 ((o_nilCheck (by exact (congrArg Value.pointer q10))) _) rfl ?_
      refine WL_val gd0 ((o_fieldAddr 3 Try.underlying43 rfl Try.sizeOf3 rfl rfl rfl) _) rfl ?_
      obtain ⟨c20, h⟩ := h
      refine WL_act gd0 (o_store (v := .int .i64 v3) Try.sizeOf3 rfl rfl rfl c20) ?_
      generalize hw19 : World.setCell w16 (p9.add 3) (.int .i64 v3) = w19 at h ⊢
      try dsimp only at h
      refine WL_nil ?_
      refine nrm ?_
      refine WC_seq ?_
      refine WC_region ?_
      refine WL_val gd0 ((o_assign (v := .int .i64 0) rfl) _) rfl ?_
      refine WL_nil ?_
      refine nrm ?_
      refine WC_ret ?_
      refine rtE ?_
      exact gv1 rfl rfl h

def F17_b1 (x_n9 : Nat) (x_a8 : Option Addr) (out_a13 : Option Addr) (out_n14 : Nat) (out_c15 : Nat) (t19 : Int) (w20 : World) (nx20 : Option Addr → Nat → Nat → Int → World → Prop) (k : Value → World → Prop) : Prop :=
  if t19 < (x_n9 : Int) then
  ∃ (p25 : Addr), x_a8 = some p25 ∧ (0 : Int) ≤ t19 ∧ t19 < (x_n9 : Int) ∧ ∃ (x27 x28 : Int) (x29 : Bool) (x30 : Int), Cells w20 (p25.add (t19.toNat * 4)) 0 [.int .i64 x27, .int .i64 x28, .bool x29, .int .i64 x30] ∧ New w20 43 [.int .i64 0, .int .i64 0, .bool false, .int .i64 0] (fun p32 w33 => PutAll w33 p32 [.int .i64 x27, .int .i64 x28, .bool x29, .int .i64 x30] (fun w34 => ∃ (x36 : Int), w34.cell? p32 = some (.int .i64 x36) ∧ ∃ (x38 : Int), w34.cell? (p32.add 3) = some (.int .i64 x38) ∧ New w34 40 [.int .i64 x36, .int .i64 x38] (fun p40 w41 => ∃ (b_a42 : Option Addr) (b_n43 b_c44 : Nat) (w45 : World), (Builtin.append_ #[26, 26] 26 #[.slice out_a13 out_n14 out_c15, .slice (some p40) 1 1]).run Try.prog w41 = .ok (.slice b_a42 b_n43 b_c44) w45 ∧ nx20 b_a42 b_n43 b_c44 (IntKind.i64.wrap (t19 + 1)) w45)))
else
  k (.slice out_a13 out_n14 out_c15) w20
/-- (*spacecraft params.Pool).Values -/
def F17 (p1 : Option Addr) (w2 : World) (k : Value → World → Prop) : Prop :=
  Does Try.prog 40 #[.pointer p1] w2 (fun v w3 => ∃ (x4 : Bool), v = .bool x4 ∧ if (!x4) = true then
  k (.slice none 0 0) w3
else
  ∃ (p6 : Addr), p1 = some p6 ∧ ∃ (x_a8 : Option Addr) (x_n9 x_c10 : Nat), w3.cell? ((p6.add 1).add 1) = some (.slice x_a8 x_n9 x_c10) ∧ LoopP (fun (s : Option Addr × Nat × Nat × Int) w' nx' => F17_b1 x_n9 x_a8 (s.1) (s.2.1) (s.2.2.1) (s.2.2.2) w' (fun x0 x1 x2 x3 w => nx' (x0, x1, x2, x3) w) k) (none, 0, 0, 0) w3)
set_option maxRecDepth 100000 in
set_option maxHeartbeats 2000000 in
theorem w17 (p1 : Option Addr) (w2 : World) (k : Value → World → Prop) (h : F17 p1 w2 k) : Does Try.prog 17 #[.pointer p1] w2 k := by
  refine enter 29 Try.func17 rfl rfl rfl ?_
  intro ρ hρ
  have e0 := hρ 0 _ rfl
  unfold F17 at h
  refine WC_seq ?_
  refine WC_region ?_
  refine WL_val gd0 ((o_assign (v := .slice none 0 0) rfl) _) rfl ?_
  refine WL_nil ?_
  refine nrm ?_
  refine WC_seq ?_
  refine WC_seq ?_
  refine WC_region ?_
  refine WL_val gd0 ((o_move (v := .pointer p1) (by exact e0)) _) rfl ?_
  refine WL_call gd0 (o_call Try.call40 (argCons rfl argNil) _) rfl (h.mono ?_)
  rintro _ w3 ⟨x4, rfl, h⟩
  refine WL_val gd0 ((o_not rfl) _) rfl ?_
  refine WL_nil ?_
  refine nrm ?_
  refine WC_cond (t := (!x4)) rfl (fun hb5 => ?_) (fun hb5 => ?_)
  · rw [if_pos hb5] at h
    refine WC_seq ?_
    refine WC_region ?_
    refine WL_val gd0 ((o_assign (v := .slice none 0 0) rfl) _) rfl ?_
    refine WL_nil ?_
    refine nrm ?_
    refine WC_ret ?_
    refine rtT ?_
    refine rtE ?_
    exact gv1 rfl rfl h
  · rw [if_neg (neT hb5)] at h
    refine WC_skip ?_
    refine nrm ?_
    refine WC_seq ?_
    refine WC_region ?_
    refine WL_val gd0 ((o_assign (v := .slice none 0 0) rfl) _) rfl ?_
    refine WL_nil ?_
    refine nrm ?_
    refine WC_seq ?_
    refine WC_seq ?_
    refine WC_region ?_
    refine WL_val gd0 ((o_move (v := .pointer p1) (by exact e0)) _) rfl ?_
    obtain ⟨p6, q7, h⟩ := h
    refine WL_val gd0 ((o_nilCheck (by exact (congrArg Value.pointer q7))) _) rfl ?_
    refine WL_val gd0 ((o_fieldAddr 1 Try.underlying64 rfl Try.sizeOf62 rfl rfl rfl) _) rfl ?_
    refine WL_val gd0 ((o_fieldAddr 1 Try.underlying62 rfl Try.sizeOf22 rfl rfl rfl) _) rfl ?_
    obtain ⟨x_a8, x_n9, x_c10, hc11, h⟩ := h
    refine WL_val gd0 (o_load Try.isAgg22 rfl hc11) rfl ?_
    refine WL_val gd0 ((o_len Try.underlying22 rfl) _) rfl ?_
    refine WL_val gd0 ((o_move (v := .int .i64 0) rfl) _) rfl ?_
    refine WL_nil ?_
    refine nrm ?_
    refine WC_block ?_
    obtain ⟨J20, ⟨n20, h0⟩, hr20⟩ := h
    refine WC_loop (fun n ρ w' => ∃ (out_a13 : Option Addr) (out_n14 out_c15 : Nat) (t19 : Int), ρ 3 = .slice out_a13 out_n14 out_c15 ∧ ρ 15 = .int .i64 t19 ∧ ρ 13 = .slice x_a8 x_n9 x_c10 ∧ ρ 14 = .int .i64 (x_n9 : Int) ∧ J20 n (out_a13, out_n14, out_c15, t19) w') ⟨n20, _, _, _, _, rfl, rfl, rfl, rfl, h0⟩ ?_
    rintro n20 ρ w20 ⟨out_a13, out_n14, out_c15, t19, e3_12, e15_18, e13_16, e14_17, h⟩
    have h : F17_b1 x_n9 x_a8 out_a13 out_n14 out_c15 t19 w20 (fun x0 x1 x2 x3 w => ∃ m, m < n20 ∧ J20 m (x0, x1, x2, x3) w) k := hr20 n20 (out_a13, out_n14, out_c15, t19) w20 h
    unfold F17_b1 at h
    refine WC_seq ?_
    refine WC_region ?_
    refine WL_val gd0 ((o_lss (by exact e15_18) (by exact e14_17)) _) rfl ?_
    refine WL_nil ?_
    refine nrm ?_
    refine WC_seq ?_
    refine WC_cond (t := (decide (t19 < (x_n9 : Int)))) rfl (fun hb22 => ?_) (fun hb22 => ?_)
    · rw [if_pos (of_decide_eq_true hb22)] at h
      refine WC_skip ?_
      refine nrm ?_
      refine WC_seq ?_
      refine WC_block ?_
      refine WC_seq ?_
      refine WC_region ?_
      obtain ⟨p25, q26, h⟩ := h
      obtain ⟨l23, u24, h⟩ := h
      refine WL_val gd0 ((o_indexAddr Try.underlying22 Try.sizeOf43 (by exact (Eq.trans e13_16 (congrArg (fun z => Value.slice z x_n9 x_c10) q26))) (by exact e15_18) l23 u24) _) rfl ?_
      obtain ⟨x27, x28, x29, x30, hc31, h⟩ := h
      refine WL_val gd0 (o_loadAgg (vs := [.int .i64 x27, .int .i64 x28, .bool x29, .int .i64 x30]) Try.isAgg43 Try.sizeOf43 rfl hc31) rfl ?_
      have h := New.out h
      refine WL_val gd0 (o_alloc (z := .agg #[.int .i64 0, .int .i64 0, .bool false, .int .i64 0]) (cs := [.int .i64 0, .int .i64 0, .bool false, .int .i64 0]) Try.zeroValue43 rfl) rfl ?_
      generalize hp32 : fresh w20 = p32 at h ⊢
      generalize hw33 : push w20 43 [.int .i64 0, .int .i64 0, .bool false, .int .i64 0] = w33 at h ⊢
      try dsimp only at h
      obtain ⟨c35, h⟩ := h
      refine WL_act gd0 (o_storeAgg (vs := [.int .i64 x27, .int .i64 x28, .bool x29, .int .i64 x30]) Try.sizeOf43 rfl rfl rfl c35) ?_
      generalize hw34 : setAll w33 p32 0 [.int .i64 x27, .int .i64 x28, .bool x29, .int .i64 x30] = w34 at h ⊢
      try dsimp only at h
      refine WL_nil ?_
      refine nrm ?_
      refine WC_region ?_
      refine WL_val gd0 ((o_move (v := .slice out_a13 out_n14 out_c15) (by exact e3_12)) _) rfl ?_
      refine WL_val gd0 ((o_fieldAddr0 Try.underlying43 rfl Try.sizeOf3 rfl rfl rfl) _) rfl ?_
      obtain ⟨x36, hc37, h⟩ := h
      refine WL_val gd0 (o_load Try.isAgg3 rfl hc37) rfl ?_
      refine WL_val gd0 ((o_fieldAddr 3 Try.underlying43 rfl Try.sizeOf3 rfl rfl rfl) _) rfl ?_
      obtain ⟨x38, hc39, h⟩ := h
      refine WL_val gd0 (o_load Try.isAgg3 rfl hc39) rfl ?_
      refine WL_val gd0 ((o_build (ps := [(0, .int .i64 x36), (1, .int .i64 x38)]) (v := .agg #[.int .i64 x36, .int .i64 x38]) (partCons rfl (partCons rfl partNil)) (fun w => by kernel_rfl)) _) rfl ?_
      have h := New.out h
      refine WL_val gd0 (o_buildSlice (e := 40) (ps := [(0, .agg #[.int .i64 x36, .int .i64 x38])]) (cs := [.int .i64 x36, .int .i64 x38]) (partCons rfl partNil) (fun w => by kernel_rfl)) rfl ?_
      generalize hp40 : fresh w34 = p40 at h ⊢
      generalize hw41 : push w34 40 [.int .i64 x36, .int .i64 x38] = w41 at h ⊢
      try dsimp only at h
      obtain ⟨b_a42, b_n43, b_c44, w45, r46, h⟩ := h
      refine WL_val gd0 (o_append rfl rfl r46) rfl ?_
      refine WL_val gd0 ((o_assign (v := .slice b_a42 b_n43 b_c44) rfl) _) rfl ?_
      refine WL_nil ?_
      refine nrmB ?_
      refine nrm ?_
      refine WC_region ?_
      refine WL_val gd0 ((o_add (by exact e15_18) rfl) _) rfl ?_
      refine WL_val gd0 ((o_move (v := .int .i64 (IntKind.i64.wrap (t19 + 1))) rfl) _) rfl ?_
      refine WL_nil ?_
      refine nrm ?_
      obtain ⟨m21, hm21, h⟩ := h
      exact ⟨m21, hm21, _, _, _, _, rfl, rfl, e13_16, e14_17, h⟩
    · rw [if_neg (of_decide_eq_false hb22)] at h
      refine WC_exit ?_
      refine exT ?_
      refine exT ?_
      refine exB ?_
      refine nrm ?_
      refine WC_seq ?_
      refine WC_region ?_
      refine WL_val gd0 ((o_move (v := .slice out_a13 out_n14 out_c15) (by exact e3_12)) _) rfl ?_
      refine WL_val gd0 ((o_assign (v := .slice out_a13 out_n14 out_c15) rfl) _) rfl ?_
      refine WL_nil ?_
      refine nrm ?_
      refine WC_ret ?_
      refine rtE ?_
      exact gv1 rfl rfl h

/-- spacecraft spacecraftref33.New -/
def F18 (l_a1 : Option Addr) (l_n2 : Nat) (l_c3 : Nat) (w4 : World) (k : Value → World → Prop) : Prop :=
  New w4 50 [.slice none 0 0] (fun p5 w6 => Does Try.prog 30 #[.slice l_a1 l_n2 l_c3] w6 (fun v w7 => ∃ (e_8 : Int), v = .int .i64 e_8 ∧ if e_8 ≠ 0 then
  PutAll w7 p5 [.slice none 0 0] (fun w10 => ∃ (r_a12 : Option Addr) (r_n13 r_c14 : Nat), Cells w10 p5 0 [.slice r_a12 r_n13 r_c14] ∧ k (.tuple #[.agg #[.slice r_a12 r_n13 r_c14], .int .i64 e_8]) w10)
else
  New w7 43 [] (fun p16 w17 => ∃ (b_a18 : Option Addr) (b_n19 b_c20 : Nat) (w21 : World), (Builtin.append_ #[22, 22] 22 #[.slice (some p16) 0 0, .slice l_a1 l_n2 l_c3]).run Try.prog w17 = .ok (.slice b_a18 b_n19 b_c20) w21 ∧ PutAll w21 p5 [.slice b_a18 b_n19 b_c20] (fun w23 => ∃ (r_a25 : Option Addr) (r_n26 r_c27 : Nat), Cells w23 p5 0 [.slice r_a25 r_n26 r_c27] ∧ k (.tuple #[.agg #[.slice r_a25 r_n26 r_c27], .int .i64 0]) w23))))
set_option maxRecDepth 100000 in
set_option maxHeartbeats 2000000 in
theorem w18 (l_a1 : Option Addr) (l_n2 : Nat) (l_c3 : Nat) (w4 : World) (k : Value → World → Prop) (h : F18 l_a1 l_n2 l_c3 w4 k) : Does Try.prog 18 #[.slice l_a1 l_n2 l_c3] w4 k := by
  refine enter 15 Try.func18 rfl rfl rfl ?_
  intro ρ hρ
  have e0 := hρ 0 _ rfl
  unfold F18 at h
  refine WC_seq ?_
  refine WC_region ?_
  have h := New.out h
  refine WL_val gd0 (o_alloc (z := .agg #[.slice none 0 0]) (cs := [.slice none 0 0]) Try.zeroValue50 rfl) rfl ?_
  generalize hp5 : fresh w4 = p5 at h ⊢
  generalize hw6 : push w4 50 [.slice none 0 0] = w6 at h ⊢
  try dsimp only at h
  refine WL_val gd0 ((o_assign (v := .int .i64 0) rfl) _) rfl ?_
  refine WL_nil ?_
  refine nrm ?_
  refine WC_seq ?_
  refine WC_seq ?_
  refine WC_region ?_
  refine WL_val gd0 ((o_move (v := .slice l_a1 l_n2 l_c3) (by exact e0)) _) rfl ?_
  refine WL_call gd0 (o_call Try.call30 (argCons rfl argNil) _) rfl (h.mono ?_)
  rintro _ w7 ⟨e_8, rfl, h⟩
  refine WL_val gd0 ((o_assign (v := .int .i64 e_8) rfl) _) rfl ?_
  refine WL_nil ?_
  refine nrm ?_
  refine WC_seq ?_
  refine WC_region ?_
  refine WL_val gd0 ((o_move (v := .int .i64 e_8) rfl) _) rfl ?_
  refine WL_val gd0 ((o_neq rfl rfl) _) rfl ?_
  refine WL_nil ?_
  refine nrm ?_
  refine WC_cond (t := (decide (e_8 ≠ 0))) rfl (fun hb9 => ?_) (fun hb9 => ?_)
  · rw [if_pos (of_decide_eq_true hb9)] at h
    refine WC_seq ?_
    refine WC_region ?_
    refine WL_val gd0 ((o_build (ps := []) (v := .agg #[.slice none 0 0]) partNil (fun w => by kernel_rfl)) _) rfl ?_
    refine WL_val gd0 ((o_move (v := .int .i64 e_8) rfl) _) rfl ?_
    obtain ⟨c11, h⟩ := h
    refine WL_act gd0 (o_storeAgg (vs := [.slice none 0 0]) Try.sizeOf50 rfl rfl rfl c11) ?_
    generalize hw10 : setAll w7 p5 0 [.slice none 0 0] = w10 at h ⊢
    try dsimp only at h
    refine WL_val gd0 ((o_assign (v := .int .i64 e_8) rfl) _) rfl ?_
    refine WL_nil ?_
    refine nrm ?_
    refine WC_ret ?_
    refine rtT ?_
    refine rtE ?_
    obtain ⟨r_a12, r_n13, r_c14, hc15, h⟩ := h
    exact gvC1 (vs := [.slice r_a12 r_n13 r_c14]) rfl Try.isAgg50 Try.sizeOf50 rfl hc15 rfl h
  · rw [if_neg (of_decide_eq_false hb9)] at h
    refine WC_skip ?_
    refine nrm ?_
    refine WC_seq ?_
    refine WC_region ?_
    have h := New.out h
    refine WL_val gd0 (o_buildSlice (e := 43) (ps := []) (cs := []) partNil (fun w => by kernel_rfl)) rfl ?_
    generalize hp16 : fresh w7 = p16 at h ⊢
    generalize hw17 : push w7 43 [] = w17 at h ⊢
    try dsimp only at h
    refine WL_val gd0 ((o_move (v := .slice l_a1 l_n2 l_c3) (by exact e0)) _) rfl ?_
    obtain ⟨b_a18, b_n19, b_c20, w21, r22, h⟩ := h
    refine WL_val gd0 (o_append rfl rfl r22) rfl ?_
    refine WL_val gd0 ((o_build (ps := [(0, .slice b_a18 b_n19 b_c20)]) (v := .agg #[.slice b_a18 b_n19 b_c20]) (partCons rfl partNil) (fun w => by kernel_rfl)) _) rfl ?_
    obtain ⟨c24, h⟩ := h
    refine WL_act gd0 (o_storeAgg (vs := [.slice b_a18 b_n19 b_c20]) Try.sizeOf50 rfl rfl rfl c24) ?_
    generalize hw23 : setAll w21 p5 0 [.slice b_a18 b_n19 b_c20] = w23 at h ⊢
    try dsimp only at h
    refine WL_val gd0 ((o_assign (v := .int .i64 0) rfl) _) rfl ?_
    refine WL_nil ?_
    refine nrm ?_
    refine WC_ret ?_
    refine rtE ?_
    obtain ⟨r_a25, r_n26, r_c27, hc28, h⟩ := h
    exact gvC1 (vs := [.slice r_a25 r_n26 r_c27]) rfl Try.isAgg50 Try.sizeOf50 rfl hc28 rfl h

/-- spacecraft spacecraftref33.Set -/
def F19 (p_a1 : Option Addr) (p_n2 : Nat) (p_c3 : Nat) (id4 : Int) (v5 : Int) (w6 : World) (k : Value → World → Prop) : Prop :=
  New w6 50 [.slice p_a1 p_n2 p_c3] (fun p7 w8 => New w8 50 [.slice none 0 0] (fun p9 w10 => ∃ (x_a11 : Option Addr) (x_n12 x_c13 : Nat), w10.cell? p7 = some (.slice x_a11 x_n12 x_c13) ∧ Does Try.prog 32 #[.slice x_a11 x_n12 x_c13, .int .i64 id4] w10 (fun v w15 => ∃ (i16 : Int), v = .int .i64 i16 ∧ if i16 < 0 then
  ∃ (x_a18 : Option Addr) (x_n19 x_c20 : Nat), Cells w15 p7 0 [.slice x_a18 x_n19 x_c20] ∧ PutAll w15 p9 [.slice x_a18 x_n19 x_c20] (fun w22 => ∃ (r_a24 : Option Addr) (r_n25 r_c26 : Nat), Cells w22 p9 0 [.slice r_a24 r_n25 r_c26] ∧ k (.tuple #[.agg #[.slice r_a24 r_n25 r_c26], .int .i64 8]) w22)
else
  ∃ (x_a28 : Option Addr) (x_n29 x_c30 : Nat), w15.cell? p7 = some (.slice x_a28 x_n29 x_c30) ∧ ∃ (p34 : Addr), x_a28 = some p34 ∧ (0 : Int) ≤ i16 ∧ i16 < (x_n29 : Int) ∧ ∃ (x36 x37 : Int) (x38 : Bool) (x39 : Int), Cells w15 (p34.add (i16.toNat * 4)) 0 [.int .i64 x36, .int .i64 x37, .bool x38, .int .i64 x39] ∧ Does Try.prog 41 #[.agg #[.int .i64 x36, .int .i64 x37, .bool x38, .int .i64 x39], .int .i64 v5] w15 (fun v w41 => ∃ (x42 : Bool), v = .bool x42 ∧ if (!x42) = true then
    ∃ (x_a44 : Option Addr) (x_n45 x_c46 : Nat), Cells w41 p7 0 [.slice x_a44 x_n45 x_c46] ∧ PutAll w41 p9 [.slice x_a44 x_n45 x_c46] (fun w48 => ∃ (r_a50 : Option Addr) (r_n51 r_c52 : Nat), Cells w48 p9 0 [.slice r_a50 r_n51 r_c52] ∧ k (.tuple #[.agg #[.slice r_a50 r_n51 r_c52], .int .i64 1]) w48)
  else
    New w41 43 [] (fun p54 w55 => ∃ (x_a56 : Option Addr) (x_n57 x_c58 : Nat), w55.cell? p7 = some (.slice x_a56 x_n57 x_c58) ∧ ∃ (b_a60 : Option Addr) (b_n61 b_c62 : Nat) (w63 : World), (Builtin.append_ #[22, 22] 22 #[.slice (some p54) 0 0, .slice x_a56 x_n57 x_c58]).run Try.prog w55 = .ok (.slice b_a60 b_n61 b_c62) w63 ∧ Put w63 p7 (.slice b_a60 b_n61 b_c62) (fun w65 => ∃ (x_a67 : Option Addr) (x_n68 x_c69 : Nat), w65.cell? p7 = some (.slice x_a67 x_n68 x_c69) ∧ ∃ (p73 : Addr), x_a67 = some p73 ∧ (0 : Int) ≤ i16 ∧ i16 < (x_n68 : Int) ∧ Put w65 ((p73.add (i16.toNat * 4)).add 3) (.int .i64 v5) (fun w75 => ∃ (x_a77 : Option Addr) (x_n78 x_c79 : Nat), Cells w75 p7 0 [.slice x_a77 x_n78 x_c79] ∧ PutAll w75 p9 [.slice x_a77 x_n78 x_c79] (fun w81 => ∃ (r_a83 : Option Addr) (r_n84 r_c85 : Nat), Cells w81 p9 0 [.slice r_a83 r_n84 r_c85] ∧ k (.tuple #[.agg #[.slice r_a83 r_n84 r_c85], .int .i64 0]) w81))))))))
set_option maxRecDepth 100000 in
set_option maxHeartbeats 2000000 in
theorem w19 (p_a1 : Option Addr) (p_n2 : Nat) (p_c3 : Nat) (id4 : Int) (v5 : Int) (w6 : World) (k : Value → World → Prop) (h : F19 p_a1 p_n2 p_c3 id4 v5 w6 k) : Does Try.prog 19 #[.agg #[.slice p_a1 p_n2 p_c3], .int .i64 id4, .int .i64 v5] w6 k := by
  refine enter 37 Try.func19 rfl rfl rfl ?_
  intro ρ hρ
  have e0 := hρ 0 _ rfl
  have e1 := hρ 1 _ rfl
  have e2 := hρ 2 _ rfl
  unfold F19 at h
  refine WC_seq ?_
  refine WC_region ?_
  have h := New.out h
  refine WL_val gd0 (o_box (v := .agg #[.slice p_a1 p_n2 p_c3]) (cs := [.slice p_a1 p_n2 p_c3]) (by exact e0) rfl) rfl ?_
  generalize hp7 : fresh w6 = p7 at h ⊢
  generalize hw8 : push w6 50 [.slice p_a1 p_n2 p_c3] = w8 at h ⊢
  try dsimp only at h
  have h := New.out h
  refine WL_val gd0 (o_alloc (z := .agg #[.slice none 0 0]) (cs := [.slice none 0 0]) Try.zeroValue50 rfl) rfl ?_
  generalize hp9 : fresh w8 = p9 at h ⊢
  generalize hw10 : push w8 50 [.slice none 0 0] = w10 at h ⊢
  try dsimp only at h
  refine WL_val gd0 ((o_assign (v := .int .i64 0) rfl) _) rfl ?_
  refine WL_nil ?_
  refine nrm ?_
  refine WC_seq ?_
  refine WC_region ?_
  refine WL_val gd0 ((o_fieldAddr0 Try.underlying50 rfl Try.sizeOf22 rfl rfl rfl) _) rfl ?_
  obtain ⟨x_a11, x_n12, x_c13, hc14, h⟩ := h
  refine WL_val gd0 (o_load Try.isAgg22 rfl hc14) rfl ?_
  refine WL_val gd0 ((o_move (v := .int .i64 id4) (by exact e1)) _) rfl ?_
  refine WL_call gd0 (o_call Try.call32 (argCons rfl (argCons rfl argNil)) _) rfl (h.mono ?_)
  rintro _ w15 ⟨i16, rfl, h⟩
  refine WL_val gd0 ((o_assign (v := .int .i64 i16) rfl) _) rfl ?_
  refine WL_nil ?_
  refine nrm ?_
  refine WC_seq ?_
  refine WC_seq ?_
  refine WC_region ?_
  refine WL_val gd0 ((o_move (v := .int .i64 i16) rfl) _) rfl ?_
  refine WL_val gd0 ((o_lss rfl rfl) _) rfl ?_
  refine WL_nil ?_
  refine nrm ?_
  refine WC_cond (t := (decide (i16 < 0))) rfl (fun hb17 => ?_) (fun hb17 => ?_)
  · rw [if_pos (of_decide_eq_true hb17)] at h
    refine WC_seq ?_
    refine WC_region ?_
    obtain ⟨x_a18, x_n19, x_c20, hc21, h⟩ := h
    refine WL_val gd0 (o_loadAgg (vs := [.slice x_a18 x_n19 x_c20]) Try.isAgg50 Try.sizeOf50 rfl hc21) rfl ?_
    obtain ⟨c23, h⟩ := h
    refine WL_act gd0 (o_storeAgg (vs := [.slice x_a18 x_n19 x_c20]) Try.sizeOf50 rfl rfl rfl c23) ?_
    generalize hw22 : setAll w15 p9 0 [.slice x_a18 x_n19 x_c20] = w22 at h ⊢
    try dsimp only at h
    refine WL_val gd0 ((o_assign (v := .int .i64 8) rfl) _) rfl ?_
    refine WL_nil ?_
    refine nrm ?_
    refine WC_ret ?_
    refine rtT ?_
    refine rtE ?_
    obtain ⟨r_a24, r_n25, r_c26, hc27, h⟩ := h
    exact gvC1 (vs := [.slice r_a24 r_n25 r_c26]) rfl Try.isAgg50 Try.sizeOf50 rfl hc27 rfl h
  · rw [if_neg (of_decide_eq_false hb17)] at h
    refine WC_skip ?_
    refine nrm ?_
    refine WC_seq ?_
    refine WC_seq ?_
    refine WC_region ?_
    refine WL_val gd0 ((o_fieldAddr0 Try.underlying50 rfl Try.sizeOf22 rfl rfl rfl) _) rfl ?_
    obtain ⟨x_a28, x_n29, x_c30, hc31, h⟩ := h
    refine WL_val gd0 (o_load Try.isAgg22 rfl hc31) rfl ?_
    refine WL_val gd0 ((o_move (v := .int .i64 i16) rfl) _) rfl ?_
    obtain ⟨p34, q35, h⟩ := h
    obtain ⟨l32, u33, h⟩ := h
    refine WL_val gd0 ((o_indexAddr Try.underlying22 Try.sizeOf43 (by exact (congrArg (fun z => Value.slice z x_n29 x_c30) q35)) rfl l32 u33) _) rfl ?_
    obtain ⟨x36, x37, x38, x39, hc40, h⟩ := h
    refine WL_val gd0 (o_loadAgg (vs := [.int .i64 x36, .int .i64 x37, .bool x38, .int .i64 x39]) Try.isAgg43 Try.sizeOf43 rfl hc40) rfl ?_
    refine WL_val gd0 ((o_move (v := .int .i64 v5) (by exact e2)) _) rfl ?_
    refine WL_call gd0 (o_call Try.call41 (argCons rfl (argCons rfl argNil)) _) rfl (h.mono ?_)
    rintro _ w41 ⟨x42, rfl, h⟩
    refine WL_val gd0 ((o_not rfl) _) rfl ?_
    refine WL_nil ?_
    refine nrm ?_
    refine WC_cond (t := (!x42)) rfl (fun hb43 => ?_) (fun hb43 => ?_)
    · rw [if_pos hb43] at h
      refine WC_seq ?_
      refine WC_region ?_
      obtain ⟨x_a44, x_n45, x_c46, hc47, h⟩ := h
      refine WL_val gd0 (o_loadAgg (vs := [.slice x_a44 x_n45 x_c46]) Try.isAgg50 Try.sizeOf50 rfl hc47) rfl ?_
      obtain ⟨c49, h⟩ := h
      refine WL_act gd0 (o_storeAgg (vs := [.slice x_a44 x_n45 x_c46]) Try.sizeOf50 rfl rfl rfl c49) ?_
      generalize hw48 : setAll w41 p9 0 [.slice x_a44 x_n45 x_c46] = w48 at h ⊢
      try dsimp only at h
      refine WL_val gd0 ((o_assign (v := .int .i64 1) rfl) _) rfl ?_
      refine WL_nil ?_
      refine nrm ?_
      refine WC_ret ?_
      refine rtT ?_
      refine rtE ?_
      obtain ⟨r_a50, r_n51, r_c52, hc53, h⟩ := h
      exact gvC1 (vs := [.slice r_a50 r_n51 r_c52]) rfl Try.isAgg50 Try.sizeOf50 rfl hc53 rfl h
    · rw [if_neg (neT hb43)] at h
      refine WC_skip ?_
      refine nrm ?_
      refine WC_seq ?_
      refine WC_region ?_
      have h := New.out h
      refine WL_val gd0 (o_buildSlice (e := 43) (ps := []) (cs := []) partNil (fun w => by kernel_rfl)) rfl ?_
      generalize hp54 : fresh w41 = p54 at h ⊢
      generalize hw55 : push w41 43 [] = w55 at h ⊢
      try dsimp only at h
      refine WL_val gd0 ((o_fieldAddr0 Try.underlying50 rfl Try.sizeOf22 rfl rfl rfl) _) rfl ?_
      obtain ⟨x_a56, x_n57, x_c58, hc59, h⟩ := h
      refine WL_val gd0 (o_load Try.isAgg22 rfl hc59) rfl ?_
      obtain ⟨b_a60, b_n61, b_c62, w63, r64, h⟩ := h
      refine WL_val gd0 (o_append rfl rfl r64) rfl ?_
      refine WL_val gd0 ((o_fieldAddr0 Try.underlying50 rfl Try.sizeOf22 rfl rfl rfl) _) rfl ?_
      obtain ⟨c66, h⟩ := h
      refine WL_act gd0 (o_store (v := .slice b_a60 b_n61 b_c62) Try.sizeOf22 rfl rfl rfl c66) ?_
      generalize hw65 : World.setCell w63 p7 (.slice b_a60 b_n61 b_c62) = w65 at h ⊢
      try dsimp only at h
      refine WL_nil ?_
      refine nrm ?_
      refine WC_seq ?_
      refine WC_region ?_
      refine WL_val gd0 ((o_fieldAddr0 Try.underlying50 rfl Try.sizeOf22 rfl rfl rfl) _) rfl ?_
      obtain ⟨x_a67, x_n68, x_c69, hc70, h⟩ := h
      refine WL_val gd0 (o_load Try.isAgg22 rfl hc70) rfl ?_
      refine WL_val gd0 ((o_move (v := .int .i64 i16) rfl) _) rfl ?_
      refine WL_val gd0 ((o_move (v := .int .i64 v5) (by exact e2)) _) rfl ?_
      obtain ⟨p73, q74, h⟩ := h
      obtain ⟨l71, u72, h⟩ := h
      refine WL_val gd0 ((o_indexAddr Try.underlying22 Try.sizeOf43 (by exact (congrArg (fun z => Value.slice z x_n68 x_c69) q74)) rfl l71 u72) _) rfl ?_
      refine WL_val gd0 ((o_fieldAddr 3 Try.underlying43 rfl Try.sizeOf3 rfl rfl rfl) _) rfl ?_
      obtain ⟨c76, h⟩ := h
      refine WL_act gd0 (o_store (v := .int .i64 v5) Try.sizeOf3 rfl rfl rfl c76) ?_
      generalize hw75 : World.setCell w65 ((p73.add (i16.toNat * 4)).add 3) (.int .i64 v5) = w75 at h ⊢
      try dsimp only at h
      refine WL_nil ?_
      refine nrm ?_
      refine WC_seq ?_
      refine WC_region ?_
      obtain ⟨x_a77, x_n78, x_c79, hc80, h⟩ := h
      refine WL_val gd0 (o_loadAgg (vs := [.slice x_a77 x_n78 x_c79]) Try.isAgg50 Try.sizeOf50 rfl hc80) rfl ?_
      obtain ⟨c82, h⟩ := h
      refine WL_act gd0 (o_storeAgg (vs := [.slice x_a77 x_n78 x_c79]) Try.sizeOf50 rfl rfl rfl c82) ?_
      generalize hw81 : setAll w75 p9 0 [.slice x_a77 x_n78 x_c79] = w81 at h ⊢
      try dsimp only at h
      refine WL_val gd0 ((o_assign (v := .int .i64 0) rfl) _) rfl ?_
      refine WL_nil ?_
      refine nrm ?_
      refine WC_ret ?_
      refine rtE ?_
      obtain ⟨r_a83, r_n84, r_c85, hc86, h⟩ := h
      exact gvC1 (vs := [.slice r_a83 r_n84 r_c85]) rfl Try.isAgg50 Try.sizeOf50 rfl hc86 rfl h

/-- spacecraft spacecraftref33.Get -/
def F20 (p_a1 : Option Addr) (p_n2 : Nat) (p_c3 : Nat) (id4 : Int) (w5 : World) (k : Value → World → Prop) : Prop :=
  New w5 50 [.slice p_a1 p_n2 p_c3] (fun p6 w7 => ∃ (x_a8 : Option Addr) (x_n9 x_c10 : Nat), w7.cell? p6 = some (.slice x_a8 x_n9 x_c10) ∧ Does Try.prog 32 #[.slice x_a8 x_n9 x_c10, .int .i64 id4] w7 (fun v w12 => ∃ (i13 : Int), v = .int .i64 i13 ∧ if i13 < 0 then
  k (.tuple #[.int .i64 0, .int .i64 8]) w12
else
  ∃ (x_a15 : Option Addr) (x_n16 x_c17 : Nat), w12.cell? p6 = some (.slice x_a15 x_n16 x_c17) ∧ ∃ (p21 : Addr), x_a15 = some p21 ∧ (0 : Int) ≤ i13 ∧ i13 < (x_n16 : Int) ∧ ∃ (t23 : Int), w12.cell? ((p21.add (i13.toNat * 4)).add 3) = some (.int .i64 t23) ∧ k (.tuple #[.int .i64 t23, .int .i64 0]) w12))
set_option maxRecDepth 100000 in
set_option maxHeartbeats 2000000 in
theorem w20 (p_a1 : Option Addr) (p_n2 : Nat) (p_c3 : Nat) (id4 : Int) (w5 : World) (k : Value → World → Prop) (h : F20 p_a1 p_n2 p_c3 id4 w5 k) : Does Try.prog 20 #[.agg #[.slice p_a1 p_n2 p_c3], .int .i64 id4] w5 k := by
  refine enter 19 Try.func20 rfl rfl rfl ?_
  intro ρ hρ
  have e0 := hρ 0 _ rfl
  have e1 := hρ 1 _ rfl
  unfold F20 at h
  refine WC_seq ?_
  refine WC_region ?_
  have h := New.out h
  refine WL_val gd0 (o_box (v := .agg #[.slice p_a1 p_n2 p_c3]) (cs := [.slice p_a1 p_n2 p_c3]) (by exact e0) rfl) rfl ?_
  generalize hp6 : fresh w5 = p6 at h ⊢
  generalize hw7 : push w5 50 [.slice p_a1 p_n2 p_c3] = w7 at h ⊢
  try dsimp only at h
  refine WL_val gd0 ((o_assign (v := .int .i64 0) rfl) _) rfl ?_
  refine WL_val gd0 ((o_assign (v := .int .i64 0) rfl) _) rfl ?_
  refine WL_nil ?_
  refine nrm ?_
  refine WC_seq ?_
  refine WC_region ?_
  refine WL_val gd0 ((o_fieldAddr0 Try.underlying50 rfl Try.sizeOf22 rfl rfl rfl) _) rfl ?_
  obtain ⟨x_a8, x_n9, x_c10, hc11, h⟩ := h
  refine WL_val gd0 (o_load Try.isAgg22 rfl hc11) rfl ?_
  refine WL_val gd0 ((o_move (v := .int .i64 id4) (by exact e1)) _) rfl ?_
  refine WL_call gd0 (o_call Try.call32 (argCons rfl (argCons rfl argNil)) _) rfl (h.mono ?_)
  rintro _ w12 ⟨i13, rfl, h⟩
  refine WL_val gd0 ((o_assign (v := .int .i64 i13) rfl) _) rfl ?_
  refine WL_nil ?_
  refine nrm ?_
  refine WC_seq ?_
  refine WC_seq ?_
  refine WC_region ?_
  refine WL_val gd0 ((o_move (v := .int .i64 i13) rfl) _) rfl ?_
  refine WL_val gd0 ((o_lss rfl rfl) _) rfl ?_
  refine WL_nil ?_
  refine nrm ?_
  refine WC_cond (t := (decide (i13 < 0))) rfl (fun hb14 => ?_) (fun hb14 => ?_)
  · rw [if_pos (of_decide_eq_true hb14)] at h
    refine WC_seq ?_
    refine WC_region ?_
    refine WL_val gd0 ((o_assign (v := .int .i64 0) rfl) _) rfl ?_
    refine WL_val gd0 ((o_assign (v := .int .i64 8) rfl) _) rfl ?_
    refine WL_nil ?_
    refine nrm ?_
    refine WC_ret ?_
    refine rtT ?_
    refine rtE ?_
    exact gv2 rfl rfl rfl h
  · rw [if_neg (of_decide_eq_false hb14)] at h
    refine WC_skip ?_
    refine nrm ?_
    refine WC_seq ?_
    refine WC_region ?_
    refine WL_val gd0 ((o_fieldAddr0 Try.underlying50 rfl Try.sizeOf22 rfl rfl rfl) _) rfl ?_
    obtain ⟨x_a15, x_n16, x_c17, hc18, h⟩ := h
    refine WL_val gd0 (o_load Try.isAgg22 rfl hc18) rfl ?_
    refine WL_val gd0 ((o_move (v := .int .i64 i13) rfl) _) rfl ?_
    obtain ⟨p21, q22, h⟩ := h
    obtain ⟨l19, u20, h⟩ := h
    refine WL_val gd0 ((o_indexAddr Try.underlying22 Try.sizeOf43 (by exact (congrArg (fun z => Value.slice z x_n16 x_c17) q22)) rfl l19 u20) _) rfl ?_
    refine WL_val gd0 ((o_fieldAddr 3 Try.underlying43 rfl Try.sizeOf3 rfl rfl rfl) _) rfl ?_
    obtain ⟨t23, hc24, h⟩ := h
    refine WL_val gd0 (o_load Try.isAgg3 rfl hc24) rfl ?_
    refine WL_val gd0 ((o_assign (v := .int .i64 t23) rfl) _) rfl ?_
    refine WL_val gd0 ((o_assign (v := .int .i64 0) rfl) _) rfl ?_
    refine WL_nil ?_
    refine nrm ?_
    refine WC_ret ?_
    refine rtE ?_
    exact gv2 rfl rfl rfl h

def F21_j4 (k67 : Int) (x40 : Int) (x47 : Int) (x51 : Int) (n63 : Int) (out_a74 : Option Addr) (out_n75 : Nat) (out_c76 : Nat) (w81 : World) (nx68 : Option Addr → Nat → Nat → Int → Int → World → Prop) : Prop :=
  Does Try.prog 33 #[.int .i64 k67] w81 (fun v w82 => ∃ (x83 : Int), v = .int .i64 x83 ∧ x83 ≠ 0 ∧ if (Int.tmod (IntKind.i64.wrap (Int.tdiv (Int.tmod (IntKind.i64.wrap (x40 + x47)) x51) x83)) 2) = 1 then
  ∃ (p88 : Addr), out_a74 = some p88 ∧ (0 : Int) ≤ IntKind.i64.wrap (Int.tdiv n63 8) ∧ IntKind.i64.wrap (Int.tdiv n63 8) < (out_n75 : Int) ∧ ∃ (x90 : Int), w82.drew.cell? (p88.add ((IntKind.i64.wrap (Int.tdiv n63 8)).toNat)) = some (.int .u8 x90) ∧ Does Try.prog 33 #[.int .i64 (IntKind.i64.wrap (7 - (Int.tmod n63 8)))] w82.drew (fun v w92 => ∃ (x93 : Int), v = .int .i64 x93 ∧ w92.cell? (p88.add ((IntKind.i64.wrap (Int.tdiv n63 8)).toNat)) = some (.int .u8 x90) ∧ (0 : Int) ≤ IntKind.i64.wrap (Int.tdiv n63 8) ∧ IntKind.i64.wrap (Int.tdiv n63 8) < (out_n75 : Int) ∧ Put w92 (p88.add ((IntKind.i64.wrap (Int.tdiv n63 8)).toNat)) (.int .u8 (IntKind.u8.wrap (x90 + (IntKind.u8.wrap x93)))) (fun w97 => nx68 out_a74 out_n75 out_c76 (IntKind.i64.wrap (n63 + 1)) (IntKind.i64.wrap (k67 - 1)) w97))
else
  nx68 out_a74 out_n75 out_c76 (IntKind.i64.wrap (n63 + 1)) (IntKind.i64.wrap (k67 - 1)) w82)
def F21_b3 (x40 : Int) (x47 : Int) (x51 : Int) (i26 : Int) (out_a59 : Option Addr) (out_n60 : Nat) (out_c61 : Nat) (n63 : Int) (k67 : Int) (w68 : World) (nx68 : Option Addr → Nat → Nat → Int → Int → World → Prop) (nx27 : Option Addr → Nat → Nat → Int → Int → World → Prop) : Prop :=
  if 0 ≤ k67 then
  if (Int.tmod n63 8) = 0 then
    New w68 5 [.int .u8 0] (fun p100 w101 => ∃ (b_a102 : Option Addr) (b_n103 b_c104 : Nat) (w105 : World), (Builtin.append_ #[24, 24] 24 #[.slice out_a59 out_n60 out_c61, .slice (some p100) 1 1]).run Try.prog w101 = .ok (.slice b_a102 b_n103 b_c104) w105 ∧ F21_j4 k67 x40 x47 x51 n63 b_a102 b_n103 b_c104 w105 nx68)
  else
    F21_j4 k67 x40 x47 x51 n63 out_a59 out_n60 out_c61 w68 nx68
else
  nx27 out_a59 out_n60 out_c61 n63 (IntKind.i64.wrap (i26 + 1)) w68
def F21_j2 (i26 : Int) (out_a20 : Option Addr) (out_n21 : Nat) (out_c22 : Nat) (n24 : Int) (d36 : Option Addr) (w37 : World) (nx27 : Option Addr → Nat → Nat → Int → Int → World → Prop) : Prop :=
  ∃ (p38 : Addr), d36 = some p38 ∧ ∃ (x40 : Int), w37.drew.cell? (p38.add 3) = some (.int .i64 x40) ∧ ∃ (x42 : Int), w37.drew.cell? (p38.add 1) = some (.int .i64 x42) ∧ ∃ (x44 : Int), w37.drew.cell? (p38.add 1) = some (.int .i64 x44) ∧ Does Try.prog 33 #[.int .i64 x42] w37.drew (fun v w46 => ∃ (x47 : Int), v = .int .i64 x47 ∧ w46.cell? (p38.add 3) = some (.int .i64 x40) ∧ w46.cell? (p38.add 1) = some (.int .i64 x44) ∧ Does Try.prog 33 #[.int .i64 x44] w46 (fun v w50 => ∃ (x51 : Int), v = .int .i64 x51 ∧ w50.cell? (p38.add 3) = some (.int .i64 x40) ∧ x51 ≠ 0 ∧ ∃ (x54 : Int), w50.cell? (p38.add 1) = some (.int .i64 x54) ∧ LoopP (fun (s : Option Addr × Nat × Nat × Int × Int) w' nx' => F21_b3 x40 x47 x51 i26 (s.1) (s.2.1) (s.2.2.1) (s.2.2.2.1) (s.2.2.2.2) w' (fun x0 x1 x2 x3 x4 w => nx' (x0, x1, x2, x3, x4) w) nx27) (out_a20, out_n21, out_c22, n24, (IntKind.i64.wrap (x54 - 1))) w50))
def F21_b1 (ids_n5 : Nat) (p8 : Addr) (ids_a4 : Option Addr) (out_a20 : Option Addr) (out_n21 : Nat) (out_c22 : Nat) (n24 : Int) (i26 : Int) (w27 : World) (nx27 : Option Addr → Nat → Nat → Int → Int → World → Prop) (k : Value → World → Prop) : Prop :=
  if i26 < (ids_n5 : Int) then
  ∃ (x_a107 : Option Addr) (x_n108 x_c109 : Nat), w27.drew.cell? p8 = some (.slice x_a107 x_n108 x_c109) ∧ ∃ (x_a111 : Option Addr) (x_n112 x_c113 : Nat), w27.drew.cell? p8 = some (.slice x_a111 x_n112 x_c113) ∧ ∃ (p117 : Addr), ids_a4 = some p117 ∧ (0 : Int) ≤ i26 ∧ i26 < (ids_n5 : Int) ∧ ∃ (x119 : Int), w27.drew.cell? (p117.add i26.toNat) = some (.int .i64 x119) ∧ (Does Try.prog 32 #[.slice x_a111 x_n112 x_c113, .int .i64 x119] w27.drew (fun v w121 => ∃ (x122 : Int), v = .int .i64 x122 ∧ w121.cell? p8 = some (.slice x_a107 x_n108 x_c109) ∧ ∃ (p126 : Addr), x_a107 = some p126 ∧ (0 : Int) ≤ x122 ∧ x122 < (x_n108 : Int) ∧ ∃ (x128 x129 : Int) (x130 : Bool) (x131 : Int), Cells w121 (p126.add (x122.toNat * 4)) 0 [.int .i64 x128, .int .i64 x129, .bool x130, .int .i64 x131] ∧ New w121 43 [.int .i64 0, .int .i64 0, .bool false, .int .i64 0] (fun p133 w134 => w134.cell? p8 = some (.slice x_a107 x_n108 x_c109) ∧ w134.cell? p8 = some (.slice x_a111 x_n112 x_c113) ∧ w134.cell? (p117.add i26.toNat) = some (.int .i64 x119) ∧ Cells w134 (p126.add (x122.toNat * 4)) 0 [.int .i64 x128, .int .i64 x129, .bool x130, .int .i64 x131] ∧ PutAll w134 p133 [.int .i64 x128, .int .i64 x129, .bool x130, .int .i64 x131] (fun w139 => F21_j2 i26 out_a20 out_n21 out_c22 n24 (some p133) w139 nx27)))) ∧ (New w27.drew 43 [.int .i64 0, .int .i64 0, .bool false, .int .i64 0] (fun p141 w142 => w142.cell? p8 = some (.slice x_a107 x_n108 x_c109) ∧ w142.cell? p8 = some (.slice x_a111 x_n112 x_c113) ∧ w142.cell? (p117.add i26.toNat) = some (.int .i64 x119) ∧ Does Try.prog 32 #[.slice x_a111 x_n112 x_c113, .int .i64 x119] w142 (fun v w146 => ∃ (x147 : Int), v = .int .i64 x147 ∧ w146.cell? p8 = some (.slice x_a107 x_n108 x_c109) ∧ ∃ (p151 : Addr), x_a107 = some p151 ∧ (0 : Int) ≤ x147 ∧ x147 < (x_n108 : Int) ∧ ∃ (x153 x154 : Int) (x155 : Bool) (x156 : Int), Cells w146 (p151.add (x147.toNat * 4)) 0 [.int .i64 x153, .int .i64 x154, .bool x155, .int .i64 x156] ∧ PutAll w146 p141 [.int .i64 x153, .int .i64 x154, .bool x155, .int .i64 x156] (fun w158 => F21_j2 i26 out_a20 out_n21 out_c22 n24 (some p141) w158 nx27))))
else
  k (.tuple #[.slice out_a20 out_n21 out_c22, .int .i64 0]) w27
/-- spacecraft spacecraftref33.Pack -/
def F21 (p_a1 : Option Addr) (p_n2 : Nat) (p_c3 : Nat) (ids_a4 : Option Addr) (ids_n5 : Nat) (ids_c6 : Nat) (w7 : World) (k : Value → World → Prop) : Prop :=
  New w7 50 [.slice p_a1 p_n2 p_c3] (fun p8 w9 => ∃ (x_a10 : Option Addr) (x_n11 x_c12 : Nat), w9.cell? p8 = some (.slice x_a10 x_n11 x_c12) ∧ Does Try.prog 31 #[.slice x_a10 x_n11 x_c12, .slice ids_a4 ids_n5 ids_c6] w9 (fun v w14 => ∃ (e_15 : Int), v = .int .i64 e_15 ∧ if e_15 ≠ 0 then
  k (.tuple #[.slice none 0 0, .int .i64 e_15]) w14
else
  LoopP (fun (s : Option Addr × Nat × Nat × Int × Int) w' nx' => F21_b1 ids_n5 p8 ids_a4 (s.1) (s.2.1) (s.2.2.1) (s.2.2.2.1) (s.2.2.2.2) w' (fun x0 x1 x2 x3 x4 w => nx' (x0, x1, x2, x3, x4) w) k) (none, 0, 0, 0, 0) w14))
set_option maxRecDepth 100000 in
set_option maxHeartbeats 2000000 in
theorem w21 (p_a1 : Option Addr) (p_n2 : Nat) (p_c3 : Nat) (ids_a4 : Option Addr) (ids_n5 : Nat) (ids_c6 : Nat) (w7 : World) (k : Value → World → Prop) (h : F21 p_a1 p_n2 p_c3 ids_a4 ids_n5 ids_c6 w7 k) : Does Try.prog 21 #[.agg #[.slice p_a1 p_n2 p_c3], .slice ids_a4 ids_n5 ids_c6] w7 k := by
  refine enter 84 Try.func21 rfl rfl rfl ?_
  intro ρ hρ
  have e0 := hρ 0 _ rfl
  have e1 := hρ 1 _ rfl
  unfold F21 at h
  refine WC_seq ?_
  refine WC_region ?_
  have h := New.out h
  refine WL_val gd0 (o_box (v := .agg #[.slice p_a1 p_n2 p_c3]) (cs := [.slice p_a1 p_n2 p_c3]) (by exact e0) rfl) rfl ?_
  generalize hp8 : fresh w7 = p8 at h ⊢
  generalize hw9 : push w7 50 [.slice p_a1 p_n2 p_c3] = w9 at h ⊢
  try dsimp only at h
  refine WL_val gd0 ((o_assign (v := .slice none 0 0) rfl) _) rfl ?_
  refine WL_val gd0 ((o_assign (v := .int .i64 0) rfl) _) rfl ?_
  refine WL_nil ?_
  refine nrm ?_
  refine WC_seq ?_
  refine WC_seq ?_
  refine WC_region ?_
  refine WL_val gd0 ((o_fieldAddr0 Try.underlying50 rfl Try.sizeOf22 rfl rfl rfl) _) rfl ?_
  obtain ⟨x_a10, x_n11, x_c12, hc13, h⟩ := h
  refine WL_val gd0 (o_load Try.isAgg22 rfl hc13) rfl ?_
  refine WL_val gd0 ((o_move (v := .slice ids_a4 ids_n5 ids_c6) (by exact e1)) _) rfl ?_
  refine WL_call gd0 (o_call Try.call31 (argCons rfl (argCons rfl argNil)) _) rfl (h.mono ?_)
  rintro _ w14 ⟨e_15, rfl, h⟩
  refine WL_val gd0 ((o_assign (v := .int .i64 e_15) rfl) _) rfl ?_
  refine WL_nil ?_
  refine nrm ?_
  refine WC_seq ?_
  refine WC_region ?_
  refine WL_val gd0 ((o_move (v := .int .i64 e_15) rfl) _) rfl ?_
  refine WL_val gd0 ((o_neq rfl rfl) _) rfl ?_
  refine WL_nil ?_
  refine nrm ?_
  refine WC_cond (t := (decide (e_15 ≠ 0))) rfl (fun hb16 => ?_) (fun hb16 => ?_)
  · rw [if_pos (of_decide_eq_true hb16)] at h
    refine WC_seq ?_
    refine WC_region ?_
    refine WL_val gd0 ((o_move (v := .int .i64 e_15) rfl) _) rfl ?_
    refine WL_val gd0 ((o_assign (v := .slice none 0 0) rfl) _) rfl ?_
    refine WL_val gd0 ((o_assign (v := .int .i64 e_15) rfl) _) rfl ?_
    refine WL_nil ?_
    refine nrm ?_
    refine WC_ret ?_
    refine rtT ?_
    refine rtE ?_
    exact gv2 rfl rfl rfl h
  · rw [if_neg (of_decide_eq_false hb16)] at h
    refine WC_skip ?_
    refine nrm ?_
    refine WC_seq ?_
    refine WC_region ?_
    refine WL_val gd0 ((o_assign (v := .slice none 0 0) rfl) _) rfl ?_
    refine WL_nil ?_
    refine nrm ?_
    refine WC_seq ?_
    refine WC_region ?_
    refine WL_val gd0 ((o_assign (v := .int .i64 0) rfl) _) rfl ?_
    refine WL_nil ?_
    refine nrm ?_
    refine WC_seq ?_
    refine WC_seq ?_
    refine WC_region ?_
    refine WL_val gd0 ((o_assign (v := .int .i64 0) rfl) _) rfl ?_
    refine WL_nil ?_
    refine nrm ?_
    refine WC_block ?_
    obtain ⟨J27, ⟨n27, h0⟩, hr27⟩ := h
    refine WC_loop (fun n ρ w' => ∃ (out_a20 : Option Addr) (out_n21 out_c22 : Nat) (n24 i26 : Int), ρ 7 = .slice out_a20 out_n21 out_c22 ∧ ρ 8 = .int .i64 n24 ∧ ρ 9 = .int .i64 i26 ∧ ρ 1 = .slice ids_a4 ids_n5 ids_c6 ∧ ρ 2 = .pointer (some p8) ∧ J27 n (out_a20, out_n21, out_c22, n24, i26) w') ⟨n27, _, _, _, _, _, rfl, rfl, rfl, e1, rfl, h0⟩ ?_
    rintro n27 ρ w27 ⟨out_a20, out_n21, out_c22, n24, i26, e7_19, e8_23, e9_25, e1_17, e2_18, h⟩
    have h : F21_b1 ids_n5 p8 ids_a4 out_a20 out_n21 out_c22 n24 i26 w27 (fun x0 x1 x2 x3 x4 w => ∃ m, m < n27 ∧ J27 m (x0, x1, x2, x3, x4) w) k := hr27 n27 (out_a20, out_n21, out_c22, n24, i26) w27 h
    unfold F21_b1 at h
    refine WC_seq ?_
    refine WC_seq ?_
    refine WC_region ?_
    refine WL_val gd0 ((o_move (v := .int .i64 i26) (by exact e9_25)) _) rfl ?_
    refine WL_val gd0 ((o_move (v := .slice ids_a4 ids_n5 ids_c6) (by exact e1_17)) _) rfl ?_
    refine WL_val gd0 ((o_len Try.underlying23 rfl) _) rfl ?_
    refine WL_val gd0 ((o_lss rfl rfl) _) rfl ?_
    refine WL_nil ?_
    refine nrm ?_
    refine WC_cond (t := (decide (i26 < (ids_n5 : Int)))) rfl (fun hb29 => ?_) (fun hb29 => ?_)
    · rw [if_pos (of_decide_eq_true hb29)] at h
      refine WC_skip ?_
      refine nrm ?_
      refine WC_seq ?_
      refine WC_block ?_
      refine WC_cut (fun ρ w' => ∃ (d36 : Option Addr), ρ 10 = .pointer d36 ∧ ρ 1 = .slice ids_a4 ids_n5 ids_c6 ∧ ρ 2 = .pointer (some p8) ∧ ρ 7 = .slice out_a20 out_n21 out_c22 ∧ ρ 8 = .int .i64 n24 ∧ ρ 9 = .int .i64 i26 ∧ F21_j2 i26 out_a20 out_n21 out_c22 n24 d36 w' (fun x0 x1 x2 x3 x4 w => ∃ m, m < n27 ∧ J27 m (x0, x1, x2, x3, x4) w)) ?_ ?_
      · refine WC_draws [8, 11, 12] (.look 0 (.look 1 (.look 2 (.look 3 (.look 4 (.look 5 (.look 6 (.look 7 (.fork 8 (.look 9 (.look 10 (.act 11 (.act 12 .nil)))) 11 (.act 8 (.look 9 (.look 10 (.act 12 .nil))))))))))))) Try.mixed (by kernel_rfl) ?_
        refine WQ_val rfl gd0 (o_fieldAddr0 Try.underlying50 rfl Try.sizeOf22 rfl rfl (by exact e2_18)) rfl ?_
        obtain ⟨x_a107, x_n108, x_c109, hc110, h⟩ := h
        refine WQ_look (fun w => w.cell? p8 = some (.slice x_a107 x_n108 x_c109)) rfl gd0 (fun w hc => (o_load Try.isAgg22 rfl hc)) hc110 rfl ?_
        refine WQ_val rfl gd0 (o_fieldAddr0 Try.underlying50 rfl Try.sizeOf22 rfl rfl (by exact e2_18)) rfl ?_
        obtain ⟨x_a111, x_n112, x_c113, hc114, h⟩ := h
        refine WQ_look (fun w => w.cell? p8 = some (.slice x_a111 x_n112 x_c113)) rfl gd0 (fun w hc => (o_load Try.isAgg22 rfl hc)) hc114 rfl ?_
        refine WQ_val rfl gd0 (o_move (v := .slice ids_a4 ids_n5 ids_c6) (by exact e1_17)) rfl ?_
        refine WQ_val rfl gd0 (o_move (v := .int .i64 i26) (by exact e9_25)) rfl ?_
        obtain ⟨p117, q118, h⟩ := h
        obtain ⟨l115, u116, h⟩ := h
        refine WQ_val rfl gd0 (o_indexAddr1 Try.underlying23 Try.sizeOf3 (by exact (congrArg (fun z => Value.slice z ids_n5 ids_c6) q118)) rfl l115 u116) rfl ?_
        obtain ⟨x119, hc120, h⟩ := h
        refine WQ_look (fun w => w.cell? (p117.add i26.toNat) = some (.int .i64 x119)) rfl gd0 (fun w hc => (o_load Try.isAgg3 rfl hc)) hc120 rfl ?_
        obtain ⟨h, hf160⟩ := h
        refine WQ_fork ?_ ?_
        · refine WQ_call rfl gd0 (o_call Try.call32 (argCons rfl (argCons rfl argNil)) _) rfl (h.mono ?_)
          rintro _ w121 ⟨x122, rfl, hh123, h⟩
          refine ⟨⟨⟨⟨trivial, fun _ => hh123⟩, depT (by kernel_rfl)⟩, depT (by kernel_rfl)⟩, ?_⟩
          obtain ⟨p126, q127, h⟩ := h
          obtain ⟨l124, u125, h⟩ := h
          refine WQ_val rfl gd0 (o_indexAddr Try.underlying22 Try.sizeOf43 (by exact (congrArg (fun z => Value.slice z x_n108 x_c109) q127)) rfl l124 u125) rfl ?_
          obtain ⟨x128, x129, x130, x131, hc132, h⟩ := h
          refine WQ_look (fun w => Cells w (p126.add (x122.toNat * 4)) 0 [.int .i64 x128, .int .i64 x129, .bool x130, .int .i64 x131]) rfl gd0 (fun w hc => (o_loadAgg (vs := [.int .i64 x128, .int .i64 x129, .bool x130, .int .i64 x131]) Try.isAgg43 Try.sizeOf43 rfl hc)) hc132 rfl ?_
          have h := New.out h
          obtain ⟨hh135, hh136, hh137, hh138, h⟩ := h
          refine WQ_act rfl gd0 (o_alloc (z := .agg #[.int .i64 0, .int .i64 0, .bool false, .int .i64 0]) (cs := [.int .i64 0, .int .i64 0, .bool false, .int .i64 0]) Try.zeroValue43 rfl) rfl (by exact ⟨⟨⟨⟨trivial, fun _ => hh135⟩, fun _ => hh136⟩, fun _ => hh137⟩, fun _ => hh138⟩) ?_
          generalize hp133 : fresh w121 = p133 at h ⊢
          generalize hw134 : push w121 43 [.int .i64 0, .int .i64 0, .bool false, .int .i64 0] = w134 at h ⊢
          try dsimp only at h
          obtain ⟨c140, h⟩ := h
          refine WQ_do rfl gd0 (o_storeAgg (vs := [.int .i64 x128, .int .i64 x129, .bool x130, .int .i64 x131]) Try.sizeOf43 rfl rfl rfl c140) (by exact ⟨⟨⟨⟨trivial, depT (by kernel_rfl)⟩, depT (by kernel_rfl)⟩, depT (by kernel_rfl)⟩, depT (by kernel_rfl)⟩) ?_
          generalize hw139 : setAll w134 p133 0 [.int .i64 x128, .int .i64 x129, .bool x130, .int .i64 x131] = w139 at h ⊢
          try dsimp only at h
          refine WQ_nil ?_
          refine nrm ?_
          exact ⟨_, rfl, e1_17, e2_18, e7_19, e8_23, e9_25, h⟩
        · replace h := hf160
          have h := New.out h
          obtain ⟨hh143, hh144, hh145, h⟩ := h
          refine WQ_act rfl gd0 (o_alloc (z := .agg #[.int .i64 0, .int .i64 0, .bool false, .int .i64 0]) (cs := [.int .i64 0, .int .i64 0, .bool false, .int .i64 0]) Try.zeroValue43 rfl) rfl (by exact ⟨⟨⟨trivial, fun _ => hh143⟩, fun _ => hh144⟩, fun _ => hh145⟩) ?_
          generalize hp141 : fresh w27.drew = p141 at h ⊢
          generalize hw142 : push w27.drew 43 [.int .i64 0, .int .i64 0, .bool false, .int .i64 0] = w142 at h ⊢
          try dsimp only at h
          refine WQ_call rfl gd0 (o_call Try.call32 (argCons rfl (argCons rfl argNil)) _) rfl (h.mono ?_)
          rintro _ w146 ⟨x147, rfl, hh148, h⟩
          refine ⟨⟨⟨⟨trivial, fun _ => hh148⟩, depT (by kernel_rfl)⟩, depT (by kernel_rfl)⟩, ?_⟩
          obtain ⟨p151, q152, h⟩ := h
          obtain ⟨l149, u150, h⟩ := h
          refine WQ_val rfl gd0 (o_indexAddr Try.underlying22 Try.sizeOf43 (by exact (congrArg (fun z => Value.slice z x_n108 x_c109) q152)) rfl l149 u150) rfl ?_
          obtain ⟨x153, x154, x155, x156, hc157, h⟩ := h
          refine WQ_look (fun w => Cells w (p151.add (x147.toNat * 4)) 0 [.int .i64 x153, .int .i64 x154, .bool x155, .int .i64 x156]) rfl gd0 (fun w hc => (o_loadAgg (vs := [.int .i64 x153, .int .i64 x154, .bool x155, .int .i64 x156]) Try.isAgg43 Try.sizeOf43 rfl hc)) hc157 rfl ?_
          obtain ⟨c159, h⟩ := h
          refine WQ_do rfl gd0 (o_storeAgg (vs := [.int .i64 x153, .int .i64 x154, .bool x155, .int .i64 x156]) Try.sizeOf43 rfl rfl rfl c159) (by exact ⟨⟨⟨⟨trivial, depT (by kernel_rfl)⟩, depT (by kernel_rfl)⟩, depT (by kernel_rfl)⟩, depT (by kernel_rfl)⟩) ?_
          generalize hw158 : setAll w146 p141 0 [.int .i64 x153, .int .i64 x154, .bool x155, .int .i64 x156] = w158 at h ⊢
          try dsimp only at h
          refine WQ_nil ?_
          refine nrm ?_
          exact ⟨_, rfl, e1_17, e2_18, e7_19, e8_23, e9_25, h⟩
      · rintro ρ w37 ⟨d36, e10_35, e1_30, e2_31, e7_32, e8_33, e9_34, h⟩
        unfold F21_j2 at h
        refine WC_seq ?_
        refine WC_draws [4, 8] (.look 0 (.look 1 (.look 2 (.look 3 (.look 6 (.look 7 (.act 4 (.look 5 (.act 8 (.look 9 (.look 10 .nil))))))))))) Try.mixed (by kernel_rfl) ?_
        obtain ⟨p38, q39, h⟩ := h
        refine WQ_val rfl gd0 (o_fieldAddr 3 Try.underlying43 rfl Try.sizeOf3 rfl rfl (by exact (Eq.trans e10_35 (congrArg Value.pointer q39)))) rfl ?_
        obtain ⟨x40, hc41, h⟩ := h
        refine WQ_look (fun w => w.cell? (p38.add 3) = some (.int .i64 x40)) rfl gd0 (fun w hc => (o_load Try.isAgg3 rfl hc)) hc41 rfl ?_
        refine WQ_val rfl gd0 (o_fieldAddr 1 Try.underlying43 rfl Try.sizeOf3 rfl rfl (by exact (Eq.trans e10_35 (congrArg Value.pointer q39)))) rfl ?_
        obtain ⟨x42, hc43, h⟩ := h
        refine WQ_look (fun w => w.cell? (p38.add 1) = some (.int .i64 x42)) rfl gd0 (fun w hc => (o_load Try.isAgg3 rfl hc)) hc43 rfl ?_
        refine WQ_val rfl gd0 (o_fieldAddr 1 Try.underlying43 rfl Try.sizeOf3 rfl rfl (by exact (Eq.trans e10_35 (congrArg Value.pointer q39)))) rfl ?_
        obtain ⟨x44, hc45, h⟩ := h
        refine WQ_look (fun w => w.cell? (p38.add 1) = some (.int .i64 x44)) rfl gd0 (fun w hc => (o_load Try.isAgg3 rfl hc)) hc45 rfl ?_
        refine WQ_call rfl gd0 (o_call Try.call33 (argCons rfl argNil) _) rfl (h.mono ?_)
        rintro _ w46 ⟨x47, rfl, hh48, hh49, h⟩
        refine ⟨⟨⟨⟨trivial, fun _ => hh48⟩, depT (by kernel_rfl)⟩, fun _ => hh49⟩, ?_⟩
        refine WQ_val rfl gd0 (o_add rfl rfl) rfl ?_
        refine WQ_call rfl gd0 (o_call Try.call33 (argCons rfl argNil) _) rfl (h.mono ?_)
        rintro _ w50 ⟨x51, rfl, hh52, h⟩
        refine ⟨⟨⟨⟨trivial, fun _ => hh52⟩, depT (by kernel_rfl)⟩, depT (by kernel_rfl)⟩, ?_⟩
        obtain ⟨c53, h⟩ := h
        refine WQ_val rfl gd0 (fun w => o_rem rfl rfl w c53) rfl ?_
        refine WQ_val rfl gd0 (o_assign (v := .int .i64 (Int.tmod (IntKind.i64.wrap (x40 + x47)) x51)) rfl) rfl ?_
        refine WQ_nil ?_
        refine nrm ?_
        refine WC_seq ?_
        refine WC_region ?_
        refine WL_val gd0 ((o_fieldAddr 1 Try.underlying43 rfl Try.sizeOf3 rfl rfl (by exact (Eq.trans e10_35 (congrArg Value.pointer q39)))) _) rfl ?_
        obtain ⟨x54, hc55, h⟩ := h
        refine WL_val gd0 (o_load Try.isAgg3 rfl hc55) rfl ?_
        refine WL_val gd0 ((o_sub rfl rfl) _) rfl ?_
        refine WL_val gd0 ((o_assign (v := .int .i64 (IntKind.i64.wrap (x54 - 1))) rfl) _) rfl ?_
        refine WL_nil ?_
        refine nrm ?_
        refine WC_block ?_
        obtain ⟨J68, ⟨n68, h0⟩, hr68⟩ := h
        refine WC_loop (fun n ρ w' => ∃ (out_a59 : Option Addr) (out_n60 out_c61 : Nat) (n63 k67 : Int), ρ 7 = .slice out_a59 out_n60 out_c61 ∧ ρ 8 = .int .i64 n63 ∧ ρ 12 = .int .i64 k67 ∧ ρ 1 = .slice ids_a4 ids_n5 ids_c6 ∧ ρ 2 = .pointer (some p8) ∧ ρ 9 = .int .i64 i26 ∧ ρ 11 = .int .i64 (Int.tmod (IntKind.i64.wrap (x40 + x47)) x51) ∧ J68 n (out_a59, out_n60, out_c61, n63, k67) w') ⟨n68, _, _, _, _, _, e7_32, e8_33, rfl, e1_30, e2_31, e9_34, rfl, h0⟩ ?_
        rintro n68 ρ w68 ⟨out_a59, out_n60, out_c61, n63, k67, e7_58, e8_62, e12_66, e1_56, e2_57, e9_64, e11_65, h⟩
        have h : F21_b3 x40 x47 x51 i26 out_a59 out_n60 out_c61 n63 k67 w68 (fun x0 x1 x2 x3 x4 w => ∃ m, m < n68 ∧ J68 m (x0, x1, x2, x3, x4) w) (fun x0 x1 x2 x3 x4 w => ∃ m, m < n27 ∧ J27 m (x0, x1, x2, x3, x4) w) := hr68 n68 (out_a59, out_n60, out_c61, n63, k67) w68 h
        unfold F21_b3 at h
        refine WC_seq ?_
        refine WC_seq ?_
        refine WC_region ?_
        refine WL_val gd0 ((o_move (v := .int .i64 k67) (by exact e12_66)) _) rfl ?_
        refine WL_val gd0 ((o_geq rfl rfl) _) rfl ?_
        refine WL_nil ?_
        refine nrm ?_
        refine WC_cond (t := (decide (0 ≤ k67))) rfl (fun hb70 => ?_) (fun hb70 => ?_)
        · rw [if_pos (of_decide_eq_true hb70)] at h
          refine WC_skip ?_
          refine nrm ?_
          refine WC_seq ?_
          refine WC_block ?_
          refine WC_cut (fun ρ w' => ∃ (out_a74 : Option Addr) (out_n75 out_c76 : Nat), ρ 7 = .slice out_a74 out_n75 out_c76 ∧ ρ 1 = .slice ids_a4 ids_n5 ids_c6 ∧ ρ 2 = .pointer (some p8) ∧ ρ 8 = .int .i64 n63 ∧ ρ 9 = .int .i64 i26 ∧ ρ 11 = .int .i64 (Int.tmod (IntKind.i64.wrap (x40 + x47)) x51) ∧ ρ 12 = .int .i64 k67 ∧ F21_j4 k67 x40 x47 x51 n63 out_a74 out_n75 out_c76 w' (fun x0 x1 x2 x3 x4 w => ∃ m, m < n68 ∧ J68 m (x0, x1, x2, x3, x4) w)) ?_ ?_
          · refine WC_seq ?_
            refine WC_region ?_
            refine WL_val gd0 ((o_move (v := .int .i64 n63) (by exact e8_62)) _) rfl ?_
            refine WL_val gd0 ((fun w => o_rem rfl rfl w (by decide)) _) rfl ?_
            refine WL_val gd0 ((o_eql rfl rfl) _) rfl ?_
            refine WL_nil ?_
            refine nrm ?_
            refine WC_cond (t := (decide ((Int.tmod n63 8) = 0))) rfl (fun hb99 => ?_) (fun hb99 => ?_)
            · rw [if_pos (of_decide_eq_true hb99)] at h
              refine WC_region ?_
              refine WL_val gd0 ((o_move (v := .slice out_a59 out_n60 out_c61) (by exact e7_58)) _) rfl ?_
              have h := New.out h
              refine WL_val gd0 (o_buildSlice (e := 5) (ps := [(0, .int .u8 0)]) (cs := [.int .u8 0]) (partCons rfl partNil) (fun w => by kernel_rfl)) rfl ?_
              generalize hp100 : fresh w68 = p100 at h ⊢
              generalize hw101 : push w68 5 [.int .u8 0] = w101 at h ⊢
              try dsimp only at h
              obtain ⟨b_a102, b_n103, b_c104, w105, r106, h⟩ := h
              refine WL_val gd0 (o_append rfl rfl r106) rfl ?_
              refine WL_val gd0 ((o_assign (v := .slice b_a102 b_n103 b_c104) rfl) _) rfl ?_
              refine WL_nil ?_
              refine nrm ?_
              exact ⟨_, _, _, rfl, e1_56, e2_57, e8_62, e9_64, e11_65, e12_66, h⟩
            · rw [if_neg (of_decide_eq_false hb99)] at h
              refine WC_skip ?_
              refine nrm ?_
              exact ⟨_, _, _, e7_58, e1_56, e2_57, e8_62, e9_64, e11_65, e12_66, h⟩
          · rintro ρ w81 ⟨out_a74, out_n75, out_c76, e7_73, e1_71, e2_72, e8_77, e9_78, e11_79, e12_80, h⟩
            unfold F21_j4 at h
            refine WC_seq ?_
            refine WC_seq ?_
            refine WC_region ?_
            refine WL_val gd0 ((o_move (v := .int .i64 (Int.tmod (IntKind.i64.wrap (x40 + x47)) x51)) (by exact e11_79)) _) rfl ?_
            refine WL_val gd0 ((o_move (v := .int .i64 k67) (by exact e12_80)) _) rfl ?_
            refine WL_call gd0 (o_call Try.call33 (argCons rfl argNil) _) rfl (h.mono ?_)
            rintro _ w82 ⟨x83, rfl, h⟩
            obtain ⟨c84, h⟩ := h
            refine WL_val gd0 ((fun w => o_quo rfl rfl w c84) _) rfl ?_
            refine WL_val gd0 ((fun w => o_rem rfl rfl w (by decide)) _) rfl ?_
            refine WL_val gd0 ((o_eql rfl rfl) _) rfl ?_
            refine WL_nil ?_
            refine nrm ?_
            refine WC_cond (t := (decide ((Int.tmod (IntKind.i64.wrap (Int.tdiv (Int.tmod (IntKind.i64.wrap (x40 + x47)) x51) x83)) 2) = 1))) rfl (fun hb85 => ?_) (fun hb85 => ?_)
            · rw [if_pos (of_decide_eq_true hb85)] at h
              refine WC_draws [11, 15] (.look 0 (.look 1 (.look 2 (.look 3 (.look 4 (.look 5 (.look 6 (.look 7 (.look 8 (.look 9 (.look 10 (.act 11 (.look 12 (.look 13 (.look 14 (.act 15 .nil)))))))))))))))) Try.mixed (by kernel_rfl) ?_
              refine WQ_val rfl gd0 (o_move (v := .slice out_a74 out_n75 out_c76) (by exact e7_73)) rfl ?_
              refine WQ_val rfl gd0 (o_move (v := .int .i64 n63) (by exact e8_77)) rfl ?_
              refine WQ_val rfl gd0 (fun w => o_quo rfl rfl w (by decide)) rfl ?_
              refine WQ_val rfl gd0 (o_move (v := .slice out_a74 out_n75 out_c76) (by exact e7_73)) rfl ?_
              refine WQ_val rfl gd0 (o_move (v := .int .i64 n63) (by exact e8_77)) rfl ?_
              refine WQ_val rfl gd0 (fun w => o_quo rfl rfl w (by decide)) rfl ?_
              obtain ⟨p88, q89, h⟩ := h
              obtain ⟨l86, u87, h⟩ := h
              refine WQ_val rfl gd0 (o_indexAddr1 Try.underlying24 Try.sizeOf5 (by exact (congrArg (fun z => Value.slice z out_n75 out_c76) q89)) rfl l86 u87) rfl ?_
              obtain ⟨x90, hc91, h⟩ := h
              refine WQ_look (fun w => w.cell? (p88.add ((IntKind.i64.wrap (Int.tdiv n63 8)).toNat)) = some (.int .u8 x90)) rfl gd0 (fun w hc => (o_load Try.isAgg5 rfl hc)) hc91 rfl ?_
              refine WQ_val rfl gd0 (o_move (v := .int .i64 n63) (by exact e8_77)) rfl ?_
              refine WQ_val rfl gd0 (fun w => o_rem rfl rfl w (by decide)) rfl ?_
              refine WQ_val rfl gd0 (o_sub rfl rfl) rfl ?_
              refine WQ_call rfl gd0 (o_call Try.call33 (argCons rfl argNil) _) rfl (h.mono ?_)
              rintro _ w92 ⟨x93, rfl, hh94, h⟩
              refine ⟨⟨trivial, fun _ => hh94⟩, ?_⟩
              refine WQ_val rfl gd0 (o_conv Try.underlying3 Try.underlying5 rfl) rfl ?_
              refine WQ_val rfl gd0 (o_add rfl rfl) rfl ?_
              obtain ⟨l95, u96, h⟩ := h
              refine WQ_val rfl gd0 (o_indexAddr1 Try.underlying24 Try.sizeOf5 (by exact (congrArg (fun z => Value.slice z out_n75 out_c76) q89)) rfl l95 u96) rfl ?_
              obtain ⟨c98, h⟩ := h
              refine WQ_do rfl gd0 (o_store (v := .int .u8 (IntKind.u8.wrap (x90 + (IntKind.u8.wrap x93)))) Try.sizeOf5 rfl rfl rfl c98) (by exact ⟨trivial, depT (by kernel_rfl)⟩) ?_
              generalize hw97 : World.setCell w92 (p88.add ((IntKind.i64.wrap (Int.tdiv n63 8)).toNat)) (.int .u8 (IntKind.u8.wrap (x90 + (IntKind.u8.wrap x93)))) = w97 at h ⊢
              try dsimp only at h
              refine WQ_nil ?_
              refine nrm ?_
              refine WC_region ?_
              refine WL_val gd0 ((o_move (v := .int .i64 n63) (by exact e8_77)) _) rfl ?_
              refine WL_val gd0 ((o_add rfl rfl) _) rfl ?_
              refine WL_val gd0 ((o_assign (v := .int .i64 (IntKind.i64.wrap (n63 + 1))) rfl) _) rfl ?_
              refine WL_nil ?_
              refine nrmB ?_
              refine nrm ?_
              refine WC_region ?_
              refine WL_val gd0 ((o_move (v := .int .i64 k67) (by exact e12_80)) _) rfl ?_
              refine WL_val gd0 ((o_sub rfl rfl) _) rfl ?_
              refine WL_val gd0 ((o_assign (v := .int .i64 (IntKind.i64.wrap (k67 - 1))) rfl) _) rfl ?_
              refine WL_nil ?_
              refine nrm ?_
              obtain ⟨m69, hm69, h⟩ := h
              exact ⟨m69, hm69, _, _, _, _, _, e7_73, rfl, rfl, e1_71, e2_72, e9_78, e11_79, h⟩
            · rw [if_neg (of_decide_eq_false hb85)] at h
              refine WC_skip ?_
              refine nrm ?_
              refine WC_region ?_
              refine WL_val gd0 ((o_move (v := .int .i64 n63) (by exact e8_77)) _) rfl ?_
              refine WL_val gd0 ((o_add rfl rfl) _) rfl ?_
              refine WL_val gd0 ((o_assign (v := .int .i64 (IntKind.i64.wrap (n63 + 1))) rfl) _) rfl ?_
              refine WL_nil ?_
              refine nrmB ?_
              refine nrm ?_
              refine WC_region ?_
              refine WL_val gd0 ((o_move (v := .int .i64 k67) (by exact e12_80)) _) rfl ?_
              refine WL_val gd0 ((o_sub rfl rfl) _) rfl ?_
              refine WL_val gd0 ((o_assign (v := .int .i64 (IntKind.i64.wrap (k67 - 1))) rfl) _) rfl ?_
              refine WL_nil ?_
              refine nrm ?_
              obtain ⟨m69, hm69, h⟩ := h
              exact ⟨m69, hm69, _, _, _, _, _, e7_73, rfl, rfl, e1_71, e2_72, e9_78, e11_79, h⟩
        · rw [if_neg (of_decide_eq_false hb70)] at h
          refine WC_exit ?_
          refine exT ?_
          refine exT ?_
          refine exB ?_
          refine nrmB ?_
          refine nrm ?_
          refine WC_region ?_
          refine WL_val gd0 ((o_move (v := .int .i64 i26) (by exact e9_64)) _) rfl ?_
          refine WL_val gd0 ((o_add rfl rfl) _) rfl ?_
          refine WL_val gd0 ((o_assign (v := .int .i64 (IntKind.i64.wrap (i26 + 1))) rfl) _) rfl ?_
          refine WL_nil ?_
          refine nrm ?_
          obtain ⟨m28, hm28, h⟩ := h
          exact ⟨m28, hm28, _, _, _, _, _, e7_58, e8_62, rfl, e1_56, e2_57, h⟩
    · rw [if_neg (of_decide_eq_false hb29)] at h
      refine WC_exit ?_
      refine exT ?_
      refine exT ?_
      refine exB ?_
      refine nrm ?_
      refine WC_seq ?_
      refine WC_region ?_
      refine WL_val gd0 ((o_move (v := .slice out_a20 out_n21 out_c22) (by exact e7_19)) _) rfl ?_
      refine WL_val gd0 ((o_assign (v := .slice out_a20 out_n21 out_c22) rfl) _) rfl ?_
      refine WL_val gd0 ((o_assign (v := .int .i64 0) rfl) _) rfl ?_
      refine WL_nil ?_
      refine nrm ?_
      refine WC_ret ?_
      refine rtE ?_
      exact gv2 rfl rfl rfl h

/-- (*spacecraft params.Pool).Clone -/
def F22 (p1 : Option Addr) (w2 : World) (k : Value → World → Prop) : Prop :=
  Does Try.prog 40 #[.pointer p1] w2 (fun v w3 => ∃ (x4 : Bool), v = .bool x4 ∧ if (!x4) = true then
  k (.pointer none) w3
else
  ∃ (p6 : Addr), p1 = some p6 ∧ Does Try.prog 42 #[.pointer (some (p6.add 1))] w3 (fun v w8 => ∃ (x_a9 : Option Addr) (x_n10 x_c11 : Nat) (x_a12 : Option Addr) (x_n13 x_c14 : Nat), v = .agg #[.slice x_a9 x_n10 x_c11, .slice x_a12 x_n13 x_c14] ∧ New w8 64 [.bool true, .slice x_a9 x_n10 x_c11, .slice x_a12 x_n13 x_c14] (fun p15 w16 => k (.pointer (some p15)) w16)))
set_option maxRecDepth 100000 in
set_option maxHeartbeats 2000000 in
theorem w22 (p1 : Option Addr) (w2 : World) (k : Value → World → Prop) (h : F22 p1 w2 k) : Does Try.prog 22 #[.pointer p1] w2 k := by
  refine enter 12 Try.func22 rfl rfl rfl ?_
  intro ρ hρ
  have e0 := hρ 0 _ rfl
  unfold F22 at h
  refine WC_seq ?_
  refine WC_region ?_
  refine WL_val gd0 ((o_assign (v := .pointer none) rfl) _) rfl ?_
  refine WL_nil ?_
  refine nrm ?_
  refine WC_seq ?_
  refine WC_seq ?_
  refine WC_region ?_
  refine WL_val gd0 ((o_move (v := .pointer p1) (by exact e0)) _) rfl ?_
  refine WL_call gd0 (o_call Try.call40 (argCons rfl argNil) _) rfl (h.mono ?_)
  rintro _ w3 ⟨x4, rfl, h⟩
  refine WL_val gd0 ((o_not rfl) _) rfl ?_
  refine WL_nil ?_
  refine nrm ?_
  refine WC_cond (t := (!x4)) rfl (fun hb5 => ?_) (fun hb5 => ?_)
  · rw [if_pos hb5] at h
    refine WC_seq ?_
    refine WC_region ?_
    refine WL_val gd0 ((o_assign (v := .pointer none) rfl) _) rfl ?_
    refine WL_nil ?_
    refine nrm ?_
    refine WC_ret ?_
    refine rtT ?_
    refine rtE ?_
    exact gv1 rfl rfl h
  · rw [if_neg (neT hb5)] at h
    refine WC_skip ?_
    refine nrm ?_
    refine WC_seq ?_
    refine WC_region ?_
    refine WL_val gd0 ((o_move (v := .pointer p1) (by exact e0)) _) rfl ?_
    obtain ⟨p6, q7, h⟩ := h
    refine WL_val gd0 ((o_nilCheck (by exact (congrArg Value.pointer q7))) _) rfl ?_
    refine WL_val gd0 ((o_fieldAddr 1 Try.underlying64 rfl Try.sizeOf62 rfl rfl rfl) _) rfl ?_
    refine WL_call gd0 (o_call Try.call42 (argCons rfl argNil) _) rfl (h.mono ?_)
    rintro _ w8 ⟨x_a9, x_n10, x_c11, x_a12, x_n13, x_c14, rfl, h⟩
    refine WL_val gd0 ((o_build (ps := [(0, .bool true), (1, .agg #[.slice x_a9 x_n10 x_c11, .slice x_a12 x_n13 x_c14])]) (v := .agg #[.bool true, .slice x_a9 x_n10 x_c11, .slice x_a12 x_n13 x_c14]) (partCons rfl (partCons rfl partNil)) (fun w => by kernel_rfl)) _) rfl ?_
    have h := New.out h
    refine WL_val gd0 (o_box (v := .agg #[.bool true, .slice x_a9 x_n10 x_c11, .slice x_a12 x_n13 x_c14]) (cs := [.bool true, .slice x_a9 x_n10 x_c11, .slice x_a12 x_n13 x_c14]) rfl rfl) rfl ?_
    generalize hp15 : fresh w8 = p15 at h ⊢
    generalize hw16 : push w8 64 [.bool true, .slice x_a9 x_n10 x_c11, .slice x_a12 x_n13 x_c14] = w16 at h ⊢
    try dsimp only at h
    refine WL_val gd0 ((o_assign (v := .pointer (some p15)) rfl) _) rfl ?_
    refine WL_nil ?_
    refine nrm ?_
    refine WC_ret ?_
    refine rtE ?_
    exact gv1 rfl rfl h

def F23_b1 (p5 : Addr) (out_a9 : Option Addr) (out_n10 : Nat) (out_c11 : Nat) (i13 : Int) (w14 : World) (nx14 : Option Addr → Nat → Nat → Int → World → Prop) (k : Value → World → Prop) : Prop :=
  ∃ (x_a16 : Option Addr) (x_n17 x_c18 : Nat), w14.cell? p5 = some (.slice x_a16 x_n17 x_c18) ∧ if i13 < (x_n17 : Int) then
  ∃ (x_a21 : Option Addr) (x_n22 x_c23 : Nat), w14.drew.cell? p5 = some (.slice x_a21 x_n22 x_c23) ∧ ∃ (p27 : Addr), x_a21 = some p27 ∧ (0 : Int) ≤ i13 ∧ i13 < (x_n22 : Int) ∧ ∃ (x29 : Int), w14.drew.cell? (p27.add (i13.toNat * 4)) = some (.int .i64 x29) ∧ ∃ (x_a31 : Option Addr) (x_n32 x_c33 : Nat), w14.drew.cell? p5 = some (.slice x_a31 x_n32 x_c33) ∧ ∃ (p37 : Addr), x_a31 = some p37 ∧ (0 : Int) ≤ i13 ∧ i13 < (x_n32 : Int) ∧ ∃ (x39 : Int), w14.drew.cell? ((p37.add (i13.toNat * 4)).add 3) = some (.int .i64 x39) ∧ New w14.drew 40 [.int .i64 x29, .int .i64 x39] (fun p41 w42 => ∃ (b_a43 : Option Addr) (b_n44 b_c45 : Nat) (w46 : World), (Builtin.append_ #[26, 26] 26 #[.slice out_a9 out_n10 out_c11, .slice (some p41) 1 1]).run Try.prog w42 = .ok (.slice b_a43 b_n44 b_c45) w46 ∧ nx14 b_a43 b_n44 b_c45 (IntKind.i64.wrap (i13 + 1)) w46)
else
  k (.slice out_a9 out_n10 out_c11) w14
/-- spacecraft spacecraftref33.Values -/
def F23 (p_a1 : Option Addr) (p_n2 : Nat) (p_c3 : Nat) (w4 : World) (k : Value → World → Prop) : Prop :=
  New w4 50 [.slice p_a1 p_n2 p_c3] (fun p5 w6 => LoopP (fun (s : Option Addr × Nat × Nat × Int) w' nx' => F23_b1 p5 (s.1) (s.2.1) (s.2.2.1) (s.2.2.2) w' (fun x0 x1 x2 x3 w => nx' (x0, x1, x2, x3) w) k) (none, 0, 0, 0) w6)
set_option maxRecDepth 100000 in
set_option maxHeartbeats 2000000 in
theorem w23 (p_a1 : Option Addr) (p_n2 : Nat) (p_c3 : Nat) (w4 : World) (k : Value → World → Prop) (h : F23 p_a1 p_n2 p_c3 w4 k) : Does Try.prog 23 #[.agg #[.slice p_a1 p_n2 p_c3]] w4 k := by
  refine enter 29 Try.func23 rfl rfl rfl ?_
  intro ρ hρ
  have e0 := hρ 0 _ rfl
  unfold F23 at h
  refine WC_seq ?_
  refine WC_region ?_
  have h := New.out h
  refine WL_val gd0 (o_box (v := .agg #[.slice p_a1 p_n2 p_c3]) (cs := [.slice p_a1 p_n2 p_c3]) (by exact e0) rfl) rfl ?_
  generalize hp5 : fresh w4 = p5 at h ⊢
  generalize hw6 : push w4 50 [.slice p_a1 p_n2 p_c3] = w6 at h ⊢
  try dsimp only at h
  refine WL_val gd0 ((o_assign (v := .slice none 0 0) rfl) _) rfl ?_
  refine WL_nil ?_
  refine nrm ?_
  refine WC_seq ?_
  refine WC_region ?_
  refine WL_val gd0 ((o_assign (v := .slice none 0 0) rfl) _) rfl ?_
  refine WL_nil ?_
  refine nrm ?_
  refine WC_seq ?_
  refine WC_seq ?_
  refine WC_region ?_
  refine WL_val gd0 ((o_assign (v := .int .i64 0) rfl) _) rfl ?_
  refine WL_nil ?_
  refine nrm ?_
  refine WC_block ?_
  obtain ⟨J14, ⟨n14, h0⟩, hr14⟩ := h
  refine WC_loop (fun n ρ w' => ∃ (out_a9 : Option Addr) (out_n10 out_c11 : Nat) (i13 : Int), ρ 3 = .slice out_a9 out_n10 out_c11 ∧ ρ 4 = .int .i64 i13 ∧ ρ 1 = .pointer (some p5) ∧ J14 n (out_a9, out_n10, out_c11, i13) w') ⟨n14, _, _, _, _, rfl, rfl, rfl, h0⟩ ?_
  rintro n14 ρ w14 ⟨out_a9, out_n10, out_c11, i13, e3_8, e4_12, e1_7, h⟩
  have h : F23_b1 p5 out_a9 out_n10 out_c11 i13 w14 (fun x0 x1 x2 x3 w => ∃ m, m < n14 ∧ J14 m (x0, x1, x2, x3) w) k := hr14 n14 (out_a9, out_n10, out_c11, i13) w14 h
  unfold F23_b1 at h
  refine WC_seq ?_
  refine WC_seq ?_
  refine WC_region ?_
  refine WL_val gd0 ((o_move (v := .int .i64 i13) (by exact e4_12)) _) rfl ?_
  refine WL_val gd0 ((o_fieldAddr0 Try.underlying50 rfl Try.sizeOf22 rfl rfl (by exact e1_7)) _) rfl ?_
  obtain ⟨x_a16, x_n17, x_c18, hc19, h⟩ := h
  refine WL_val gd0 (o_load Try.isAgg22 rfl hc19) rfl ?_
  refine WL_val gd0 ((o_len Try.underlying22 rfl) _) rfl ?_
  refine WL_val gd0 ((o_lss rfl rfl) _) rfl ?_
  refine WL_nil ?_
  refine nrm ?_
  refine WC_cond (t := (decide (i13 < (x_n17 : Int)))) rfl (fun hb20 => ?_) (fun hb20 => ?_)
  · rw [if_pos (of_decide_eq_true hb20)] at h
    refine WC_skip ?_
    refine nrm ?_
    refine WC_seq ?_
    refine WC_block ?_
    refine WC_draws [14, 15] (.look 0 (.look 1 (.look 2 (.look 3 (.look 4 (.look 5 (.look 6 (.look 7 (.look 8 (.look 9 (.look 10 (.look 11 (.look 12 (.look 13 (.act 14 (.act 15 (.look 16 .nil))))))))))))))))) Try.mixed (by kernel_rfl) ?_
    refine WQ_val rfl gd0 (o_move (v := .slice out_a9 out_n10 out_c11) (by exact e3_8)) rfl ?_
    refine WQ_val rfl gd0 (o_fieldAddr0 Try.underlying50 rfl Try.sizeOf22 rfl rfl (by exact e1_7)) rfl ?_
    obtain ⟨x_a21, x_n22, x_c23, hc24, h⟩ := h
    refine WQ_look (fun w => w.cell? p5 = some (.slice x_a21 x_n22 x_c23)) rfl gd0 (fun w hc => (o_load Try.isAgg22 rfl hc)) hc24 rfl ?_
    refine WQ_val rfl gd0 (o_move (v := .int .i64 i13) (by exact e4_12)) rfl ?_
    obtain ⟨p27, q28, h⟩ := h
    obtain ⟨l25, u26, h⟩ := h
    refine WQ_val rfl gd0 (o_indexAddr Try.underlying22 Try.sizeOf43 (by exact (congrArg (fun z => Value.slice z x_n22 x_c23) q28)) rfl l25 u26) rfl ?_
    refine WQ_val rfl gd0 (o_fieldAddr0 Try.underlying43 rfl Try.sizeOf3 rfl rfl rfl) rfl ?_
    obtain ⟨x29, hc30, h⟩ := h
    refine WQ_look (fun w => w.cell? (p27.add (i13.toNat * 4)) = some (.int .i64 x29)) rfl gd0 (fun w hc => (o_load Try.isAgg3 rfl hc)) hc30 rfl ?_
    refine WQ_val rfl gd0 (o_fieldAddr0 Try.underlying50 rfl Try.sizeOf22 rfl rfl (by exact e1_7)) rfl ?_
    obtain ⟨x_a31, x_n32, x_c33, hc34, h⟩ := h
    refine WQ_look (fun w => w.cell? p5 = some (.slice x_a31 x_n32 x_c33)) rfl gd0 (fun w hc => (o_load Try.isAgg22 rfl hc)) hc34 rfl ?_
    refine WQ_val rfl gd0 (o_move (v := .int .i64 i13) (by exact e4_12)) rfl ?_
    obtain ⟨p37, q38, h⟩ := h
    obtain ⟨l35, u36, h⟩ := h
    refine WQ_val rfl gd0 (o_indexAddr Try.underlying22 Try.sizeOf43 (by exact (congrArg (fun z => Value.slice z x_n32 x_c33) q38)) rfl l35 u36) rfl ?_
    refine WQ_val rfl gd0 (o_fieldAddr 3 Try.underlying43 rfl Try.sizeOf3 rfl rfl rfl) rfl ?_
    obtain ⟨x39, hc40, h⟩ := h
    refine WQ_look (fun w => w.cell? ((p37.add (i13.toNat * 4)).add 3) = some (.int .i64 x39)) rfl gd0 (fun w hc => (o_load Try.isAgg3 rfl hc)) hc40 rfl ?_
    refine WQ_val rfl gd0 (o_build (ps := [(0, .int .i64 x29), (1, .int .i64 x39)]) (v := .agg #[.int .i64 x29, .int .i64 x39]) (partCons rfl (partCons rfl partNil)) (fun w => by kernel_rfl)) rfl ?_
    have h := New.out h
    refine WQ_act rfl gd0 (o_buildSlice (e := 40) (ps := [(0, .agg #[.int .i64 x29, .int .i64 x39])]) (cs := [.int .i64 x29, .int .i64 x39]) (partCons rfl partNil) (fun w => by kernel_rfl)) rfl (by exact ⟨⟨⟨⟨trivial, depT (by kernel_rfl)⟩, depT (by kernel_rfl)⟩, depT (by kernel_rfl)⟩, depT (by kernel_rfl)⟩) ?_
    generalize hp41 : fresh w14.drew = p41 at h ⊢
    generalize hw42 : push w14.drew 40 [.int .i64 x29, .int .i64 x39] = w42 at h ⊢
    try dsimp only at h
    obtain ⟨b_a43, b_n44, b_c45, w46, r47, h⟩ := h
    refine WQ_act rfl gd0 (o_append rfl rfl r47) rfl (by exact ⟨⟨⟨⟨trivial, depT (by kernel_rfl)⟩, depT (by kernel_rfl)⟩, depT (by kernel_rfl)⟩, depT (by kernel_rfl)⟩) ?_
    refine WQ_val rfl gd0 (o_assign (v := .slice b_a43 b_n44 b_c45) rfl) rfl ?_
    refine WQ_nil ?_
    refine nrmB ?_
    refine nrm ?_
    refine WC_region ?_
    refine WL_val gd0 ((o_move (v := .int .i64 i13) (by exact e4_12)) _) rfl ?_
    refine WL_val gd0 ((o_add rfl rfl) _) rfl ?_
    refine WL_val gd0 ((o_assign (v := .int .i64 (IntKind.i64.wrap (i13 + 1))) rfl) _) rfl ?_
    refine WL_nil ?_
    refine nrm ?_
    obtain ⟨m15, hm15, h⟩ := h
    exact ⟨m15, hm15, _, _, _, _, rfl, rfl, e1_7, h⟩
  · rw [if_neg (of_decide_eq_false hb20)] at h
    refine WC_exit ?_
    refine exT ?_
    refine exT ?_
    refine exB ?_
    refine nrm ?_
    refine WC_seq ?_
    refine WC_region ?_
    refine WL_val gd0 ((o_move (v := .slice out_a9 out_n10 out_c11) (by exact e3_8)) _) rfl ?_
    refine WL_val gd0 ((o_assign (v := .slice out_a9 out_n10 out_c11) rfl) _) rfl ?_
    refine WL_nil ?_
    refine nrm ?_
    refine WC_ret ?_
    refine rtE ?_
    exact gv1 rfl rfl h

/-- spacecraft spacecraftlaw33.two -/
def F24 (w1 : World) (k : Value → World → Prop) : Prop :=
  New w1 43 [.int .i64 1, .int .i64 3, .bool false, .int .i64 5, .int .i64 2, .int .i64 7, .bool true, .int .i64 (-2)] (fun p2 w3 => k (.slice (some p2) 2 2) w3)
set_option maxRecDepth 100000 in
set_option maxHeartbeats 2000000 in
theorem w24 (w1 : World) (k : Value → World → Prop) (h : F24 w1 k) : Does Try.prog 24 #[] w1 k := by
  refine enter 4 Try.func24 rfl rfl rfl ?_
  intro ρ hρ
  unfold F24 at h
  refine WC_seq ?_
  refine WC_region ?_
  refine WL_val gd0 ((o_assign (v := .slice none 0 0) rfl) _) rfl ?_
  refine WL_nil ?_
  refine nrm ?_
  refine WC_seq ?_
  refine WC_region ?_
  refine WL_val gd0 ((o_build (ps := [(0, .int .i64 1), (1, .int .i64 3), (3, .int .i64 5)]) (v := .agg #[.int .i64 1, .int .i64 3, .bool false, .int .i64 5]) (partCons rfl (partCons rfl (partCons rfl partNil))) (fun w => by kernel_rfl)) _) rfl ?_
  refine WL_val gd0 ((o_build (ps := [(0, .int .i64 2), (1, .int .i64 7), (2, .bool true), (3, .int .i64 (-2))]) (v := .agg #[.int .i64 2, .int .i64 7, .bool true, .int .i64 (-2)]) (partCons rfl (partCons rfl (partCons rfl (partCons rfl partNil)))) (fun w => by kernel_rfl)) _) rfl ?_
  have h := New.out h
  refine WL_val gd0 (o_buildSlice (e := 43) (ps := [(0, .agg #[.int .i64 1, .int .i64 3, .bool false, .int .i64 5]), (1, .agg #[.int .i64 2, .int .i64 7, .bool true, .int .i64 (-2)])]) (cs := [.int .i64 1, .int .i64 3, .bool false, .int .i64 5, .int .i64 2, .int .i64 7, .bool true, .int .i64 (-2)]) (partCons rfl (partCons rfl partNil)) (fun w => by kernel_rfl)) rfl ?_
  generalize hp2 : fresh w1 = p2 at h ⊢
  generalize hw3 : push w1 43 [.int .i64 1, .int .i64 3, .bool false, .int .i64 5, .int .i64 2, .int .i64 7, .bool true, .int .i64 (-2)] = w3 at h ⊢
  try dsimp only at h
  refine WL_val gd0 ((o_assign (v := .slice (some p2) 2 2) rfl) _) rfl ?_
  refine WL_nil ?_
  refine nrm ?_
  refine WC_ret ?_
  refine rtE ?_
  exact gv1 rfl rfl h

def F25_b1 (ids_n3 : Nat) (ids_a2 : Option Addr) (p1 : Option Addr) (out_a12 : Option Addr) (out_n13 : Nat) (out_c14 : Nat) (t18 : Int) (w19 : World) (k : Value → World → Prop) (nx19 : Option Addr → Nat → Nat → Int → World → Prop) : Prop :=
  if t18 < (ids_n3 : Int) then
  ∃ (p24 : Addr), ids_a2 = some p24 ∧ (0 : Int) ≤ t18 ∧ t18 < (ids_n3 : Int) ∧ ∃ (id26 : Int), w19.cell? (p24.add t18.toNat) = some (.int .i64 id26) ∧ Does Try.prog 39 #[.pointer p1, .int .i64 id26] w19 (fun v w28 => ∃ (r29 : Option Addr) (r30 : Int), v = .tuple #[.pointer r29, .int .i64 r30] ∧ if r30 ≠ 0 then
    k (.tuple #[.slice none 0 0, .int .i64 r30]) w28
  else
    ∃ (p32 : Addr), r29 = some p32 ∧ ∃ (x34 x35 : Int) (x36 : Bool) (x37 : Int), Cells w28 p32 0 [.int .i64 x34, .int .i64 x35, .bool x36, .int .i64 x37] ∧ New w28 43 [.int .i64 x34, .int .i64 x35, .bool x36, .int .i64 x37] (fun p39 w40 => ∃ (b_a41 : Option Addr) (b_n42 b_c43 : Nat) (w44 : World), (Builtin.append_ #[22, 22] 22 #[.slice out_a12 out_n13 out_c14, .slice (some p39) 1 1]).run Try.prog w40 = .ok (.slice b_a41 b_n42 b_c43) w44 ∧ nx19 b_a41 b_n42 b_c43 (IntKind.i64.wrap (t18 + 1)) w44))
else
  k (.tuple #[.slice out_a12 out_n13 out_c14, .int .i64 0]) w19
/-- (*spacecraft params.Pool).choose -/
def F25 (p1 : Option Addr) (ids_a2 : Option Addr) (ids_n3 : Nat) (ids_c4 : Nat) (w5 : World) (k : Value → World → Prop) : Prop :=
  Does Try.prog 40 #[.pointer p1] w5 (fun v w6 => ∃ (x7 : Bool), v = .bool x7 ∧ if (!x7) = true then
  k (.tuple #[.slice none 0 0, .int .i64 2]) w6
else
  if 256 < (ids_n3 : Int) then
    k (.tuple #[.slice none 0 0, .int .i64 6]) w6
  else
    LoopP (fun (s : Option Addr × Nat × Nat × Int) w' nx' => F25_b1 ids_n3 ids_a2 p1 (s.1) (s.2.1) (s.2.2.1) (s.2.2.2) w' k (fun x0 x1 x2 x3 w => nx' (x0, x1, x2, x3) w)) (none, 0, 0, 0) w6)
set_option maxRecDepth 100000 in
set_option maxHeartbeats 2000000 in
theorem w25 (p1 : Option Addr) (ids_a2 : Option Addr) (ids_n3 : Nat) (ids_c4 : Nat) (w5 : World) (k : Value → World → Prop) (h : F25 p1 ids_a2 ids_n3 ids_c4 w5 k) : Does Try.prog 25 #[.pointer p1, .slice ids_a2 ids_n3 ids_c4] w5 k := by
  refine enter 40 Try.func25 rfl rfl rfl ?_
  intro ρ hρ
  have e0 := hρ 0 _ rfl
  have e1 := hρ 1 _ rfl
  unfold F25 at h
  refine WC_seq ?_
  refine WC_region ?_
  refine WL_val gd0 ((o_assign (v := .slice none 0 0) rfl) _) rfl ?_
  refine WL_val gd0 ((o_assign (v := .int .i64 0) rfl) _) rfl ?_
  refine WL_nil ?_
  refine nrm ?_
  refine WC_seq ?_
  refine WC_seq ?_
  refine WC_region ?_
  refine WL_val gd0 ((o_move (v := .pointer p1) (by exact e0)) _) rfl ?_
  refine WL_call gd0 (o_call Try.call40 (argCons rfl argNil) _) rfl (h.mono ?_)
  rintro _ w6 ⟨x7, rfl, h⟩
  refine WL_val gd0 ((o_not rfl) _) rfl ?_
  refine WL_nil ?_
  refine nrm ?_
  refine WC_cond (t := (!x7)) rfl (fun hb8 => ?_) (fun hb8 => ?_)
  · rw [if_pos hb8] at h
    refine WC_seq ?_
    refine WC_region ?_
    refine WL_val gd0 ((o_assign (v := .slice none 0 0) rfl) _) rfl ?_
    refine WL_val gd0 ((o_assign (v := .int .i64 2) rfl) _) rfl ?_
    refine WL_nil ?_
    refine nrm ?_
    refine WC_ret ?_
    refine rtT ?_
    refine rtE ?_
    exact gv2 rfl rfl rfl h
  · rw [if_neg (neT hb8)] at h
    refine WC_skip ?_
    refine nrm ?_
    refine WC_seq ?_
    refine WC_seq ?_
    refine WC_region ?_
    refine WL_val gd0 ((o_move (v := .slice ids_a2 ids_n3 ids_c4) (by exact e1)) _) rfl ?_
    refine WL_val gd0 ((o_len Try.underlying23 rfl) _) rfl ?_
    refine WL_val gd0 ((o_gtr rfl rfl) _) rfl ?_
    refine WL_nil ?_
    refine nrm ?_
    refine WC_cond (t := (decide (256 < (ids_n3 : Int)))) rfl (fun hb9 => ?_) (fun hb9 => ?_)
    · rw [if_pos (of_decide_eq_true hb9)] at h
      refine WC_seq ?_
      refine WC_region ?_
      refine WL_val gd0 ((o_assign (v := .slice none 0 0) rfl) _) rfl ?_
      refine WL_val gd0 ((o_assign (v := .int .i64 6) rfl) _) rfl ?_
      refine WL_nil ?_
      refine nrm ?_
      refine WC_ret ?_
      refine rtT ?_
      refine rtE ?_
      exact gv2 rfl rfl rfl h
    · rw [if_neg (of_decide_eq_false hb9)] at h
      refine WC_skip ?_
      refine nrm ?_
      refine WC_seq ?_
      refine WC_region ?_
      refine WL_val gd0 ((o_assign (v := .slice none 0 0) rfl) _) rfl ?_
      refine WL_nil ?_
      refine nrm ?_
      refine WC_seq ?_
      refine WC_seq ?_
      refine WC_region ?_
      refine WL_val gd0 ((o_move (v := .slice ids_a2 ids_n3 ids_c4) (by exact e1)) _) rfl ?_
      refine WL_val gd0 ((o_len Try.underlying23 rfl) _) rfl ?_
      refine WL_val gd0 ((o_move (v := .int .i64 0) rfl) _) rfl ?_
      refine WL_nil ?_
      refine nrm ?_
      refine WC_block ?_
      obtain ⟨J19, ⟨n19, h0⟩, hr19⟩ := h
      refine WC_loop (fun n ρ w' => ∃ (out_a12 : Option Addr) (out_n13 out_c14 : Nat) (t18 : Int), ρ 6 = .slice out_a12 out_n13 out_c14 ∧ ρ 19 = .int .i64 t18 ∧ ρ 0 = .pointer p1 ∧ ρ 17 = .slice ids_a2 ids_n3 ids_c4 ∧ ρ 18 = .int .i64 (ids_n3 : Int) ∧ J19 n (out_a12, out_n13, out_c14, t18) w') ⟨n19, _, _, _, _, rfl, rfl, e0, rfl, rfl, h0⟩ ?_
      rintro n19 ρ w19 ⟨out_a12, out_n13, out_c14, t18, e6_11, e19_17, e0_10, e17_15, e18_16, h⟩
      have h : F25_b1 ids_n3 ids_a2 p1 out_a12 out_n13 out_c14 t18 w19 k (fun x0 x1 x2 x3 w => ∃ m, m < n19 ∧ J19 m (x0, x1, x2, x3) w) := hr19 n19 (out_a12, out_n13, out_c14, t18) w19 h
      unfold F25_b1 at h
      refine WC_seq ?_
      refine WC_region ?_
      refine WL_val gd0 ((o_lss (by exact e19_17) (by exact e18_16)) _) rfl ?_
      refine WL_nil ?_
      refine nrm ?_
      refine WC_seq ?_
      refine WC_cond (t := (decide (t18 < (ids_n3 : Int)))) rfl (fun hb21 => ?_) (fun hb21 => ?_)
      · rw [if_pos (of_decide_eq_true hb21)] at h
        refine WC_skip ?_
        refine nrm ?_
        refine WC_seq ?_
        refine WC_block ?_
        refine WC_seq ?_
        refine WC_region ?_
        obtain ⟨p24, q25, h⟩ := h
        obtain ⟨l22, u23, h⟩ := h
        refine WL_val gd0 ((o_indexAddr1 Try.underlying23 Try.sizeOf3 (by exact (Eq.trans e17_15 (congrArg (fun z => Value.slice z ids_n3 ids_c4) q25))) (by exact e19_17) l22 u23) _) rfl ?_
        obtain ⟨id26, hc27, h⟩ := h
        refine WL_val gd0 (o_load Try.isAgg3 rfl hc27) rfl ?_
        refine WL_val gd0 ((o_assign (v := .int .i64 id26) rfl) _) rfl ?_
        refine WL_nil ?_
        refine nrm ?_
        refine WC_seq ?_
        refine WC_region ?_
        refine WL_val gd0 ((o_move (v := .pointer p1) (by exact e0_10)) _) rfl ?_
        refine WL_val gd0 ((o_move (v := .int .i64 id26) rfl) _) rfl ?_
        refine WL_call gd0 (o_call Try.call39 (argCons rfl (argCons rfl argNil)) _) rfl (h.mono ?_)
        rintro _ w28 ⟨r29, r30, rfl, h⟩
        refine WL_val gd0 ((o_move (v := .tuple #[.pointer r29, .int .i64 r30]) rfl) _) rfl ?_
        refine WL_val gd0 ((o_extract (vs := [.pointer r29, .int .i64 r30]) (r := .pointer r29) rfl rfl) _) rfl ?_
        refine WL_val gd0 ((o_extract (vs := [.pointer r29, .int .i64 r30]) (r := .int .i64 r30) rfl rfl) _) rfl ?_
        refine WL_val gd0 ((o_assign (v := .pointer r29) rfl) _) rfl ?_
        refine WL_val gd0 ((o_assign (v := .int .i64 r30) rfl) _) rfl ?_
        refine WL_nil ?_
        refine nrm ?_
        refine WC_seq ?_
        refine WC_seq ?_
        refine WC_region ?_
        refine WL_val gd0 ((o_move (v := .int .i64 r30) rfl) _) rfl ?_
        refine WL_val gd0 ((o_neq rfl rfl) _) rfl ?_
        refine WL_nil ?_
        refine nrm ?_
        refine WC_cond (t := (decide (r30 ≠ 0))) rfl (fun hb31 => ?_) (fun hb31 => ?_)
        · rw [if_pos (of_decide_eq_true hb31)] at h
          refine WC_seq ?_
          refine WC_region ?_
          refine WL_val gd0 ((o_move (v := .int .i64 r30) rfl) _) rfl ?_
          refine WL_val gd0 ((o_assign (v := .slice none 0 0) rfl) _) rfl ?_
          refine WL_val gd0 ((o_assign (v := .int .i64 r30) rfl) _) rfl ?_
          refine WL_nil ?_
          refine nrm ?_
          refine WC_ret ?_
          refine rtT ?_
          refine rtB ?_
          refine rtT ?_
          refine rtT ?_
          refine rtB ?_
          refine rtT ?_
          refine rtE ?_
          exact gv2 rfl rfl rfl h
        · rw [if_neg (of_decide_eq_false hb31)] at h
          refine WC_skip ?_
          refine nrm ?_
          refine WC_region ?_
          refine WL_val gd0 ((o_move (v := .slice out_a12 out_n13 out_c14) (by exact e6_11)) _) rfl ?_
          refine WL_val gd0 ((o_move (v := .pointer r29) rfl) _) rfl ?_
          obtain ⟨p32, q33, h⟩ := h
          refine WL_val gd0 ((o_nilCheck (by exact (congrArg Value.pointer q33))) _) rfl ?_
          obtain ⟨x34, x35, x36, x37, hc38, h⟩ := h
          refine WL_val gd0 (o_loadAgg (vs := [.int .i64 x34, .int .i64 x35, .bool x36, .int .i64 x37]) Try.isAgg43 Try.sizeOf43 rfl hc38) rfl ?_
          have h := New.out h
          refine WL_val gd0 (o_buildSlice (e := 43) (ps := [(0, .agg #[.int .i64 x34, .int .i64 x35, .bool x36, .int .i64 x37])]) (cs := [.int .i64 x34, .int .i64 x35, .bool x36, .int .i64 x37]) (partCons rfl partNil) (fun w => by kernel_rfl)) rfl ?_
          generalize hp39 : fresh w28 = p39 at h ⊢
          generalize hw40 : push w28 43 [.int .i64 x34, .int .i64 x35, .bool x36, .int .i64 x37] = w40 at h ⊢
          try dsimp only at h
          obtain ⟨b_a41, b_n42, b_c43, w44, r45, h⟩ := h
          refine WL_val gd0 (o_append rfl rfl r45) rfl ?_
          refine WL_val gd0 ((o_assign (v := .slice b_a41 b_n42 b_c43) rfl) _) rfl ?_
          refine WL_nil ?_
          refine nrmB ?_
          refine nrm ?_
          refine WC_region ?_
          refine WL_val gd0 ((o_add (by exact e19_17) rfl) _) rfl ?_
          refine WL_val gd0 ((o_move (v := .int .i64 (IntKind.i64.wrap (t18 + 1))) rfl) _) rfl ?_
          refine WL_nil ?_
          refine nrm ?_
          obtain ⟨m20, hm20, h⟩ := h
          exact ⟨m20, hm20, _, _, _, _, rfl, rfl, e0_10, e17_15, e18_16, h⟩
      · rw [if_neg (of_decide_eq_false hb21)] at h
        refine WC_exit ?_
        refine exT ?_
        refine exT ?_
        refine exB ?_
        refine nrm ?_
        refine WC_seq ?_
        refine WC_region ?_
        refine WL_val gd0 ((o_move (v := .slice out_a12 out_n13 out_c14) (by exact e6_11)) _) rfl ?_
        refine WL_val gd0 ((o_assign (v := .slice out_a12 out_n13 out_c14) rfl) _) rfl ?_
        refine WL_val gd0 ((o_assign (v := .int .i64 0) rfl) _) rfl ?_
        refine WL_nil ?_
        refine nrm ?_
        refine WC_ret ?_
        refine rtE ?_
        exact gv2 rfl rfl rfl h

/-- spacecraft bits.NewReader -/
def F26 (b_a1 : Option Addr) (b_n2 : Nat) (b_c3 : Nat) (w4 : World) (k : Value → World → Prop) : Prop :=
  New w4 5 [] (fun p5 w6 => ∃ (b_a7 : Option Addr) (b_n8 b_c9 : Nat) (w10 : World), (Builtin.append_ #[24, 24] 24 #[.slice (some p5) 0 0, .slice b_a1 b_n2 b_c3]).run Try.prog w6 = .ok (.slice b_a7 b_n8 b_c9) w10 ∧ New w10 90 [.bool true, .slice b_a7 b_n8 b_c9, .int .i64 0, .bool false] (fun p12 w13 => k (.pointer (some p12)) w13))
set_option maxRecDepth 100000 in
set_option maxHeartbeats 2000000 in
theorem w26 (b_a1 : Option Addr) (b_n2 : Nat) (b_c3 : Nat) (w4 : World) (k : Value → World → Prop) (h : F26 b_a1 b_n2 b_c3 w4 k) : Does Try.prog 26 #[.slice b_a1 b_n2 b_c3] w4 k := by
  refine enter 8 Try.func26 rfl rfl rfl ?_
  intro ρ hρ
  have e0 := hρ 0 _ rfl
  unfold F26 at h
  refine WC_seq ?_
  refine WC_region ?_
  refine WL_val gd0 ((o_assign (v := .pointer none) rfl) _) rfl ?_
  refine WL_nil ?_
  refine nrm ?_
  refine WC_seq ?_
  refine WC_region ?_
  have h := New.out h
  refine WL_val gd0 (o_buildSlice (e := 5) (ps := []) (cs := []) partNil (fun w => by kernel_rfl)) rfl ?_
  generalize hp5 : fresh w4 = p5 at h ⊢
  generalize hw6 : push w4 5 [] = w6 at h ⊢
  try dsimp only at h
  refine WL_val gd0 ((o_move (v := .slice b_a1 b_n2 b_c3) (by exact e0)) _) rfl ?_
  obtain ⟨b_a7, b_n8, b_c9, w10, r11, h⟩ := h
  refine WL_val gd0 (o_append rfl rfl r11) rfl ?_
  refine WL_val gd0 ((o_build (ps := [(0, .bool true), (1, .slice b_a7 b_n8 b_c9)]) (v := .agg #[.bool true, .slice b_a7 b_n8 b_c9, .int .i64 0, .bool false]) (partCons rfl (partCons rfl partNil)) (fun w => by kernel_rfl)) _) rfl ?_
  have h := New.out h
  refine WL_val gd0 (o_box (v := .agg #[.bool true, .slice b_a7 b_n8 b_c9, .int .i64 0, .bool false]) (cs := [.bool true, .slice b_a7 b_n8 b_c9, .int .i64 0, .bool false]) rfl rfl) rfl ?_
  generalize hp12 : fresh w10 = p12 at h ⊢
  generalize hw13 : push w10 90 [.bool true, .slice b_a7 b_n8 b_c9, .int .i64 0, .bool false] = w13 at h ⊢
  try dsimp only at h
  refine WL_val gd0 ((o_assign (v := .pointer (some p12)) rfl) _) rfl ?_
  refine WL_nil ?_
  refine nrm ?_
  refine WC_ret ?_
  refine rtE ?_
  exact gv1 rfl rfl h

def F27_j1 (p7 : Addr) (n5 : Int) (t12 : Bool) (w13 : World) (k : Value → World → Prop) : Prop :=
  if t12 = true then
  ∃ (x15 : Int), w13.cell? (p7.add 1) = some (.int .i64 x15) ∧ (0 : Int) ≤ x15 ∧ k (.int .i64 (IntKind.i64.wrap ((IntKind.i64.wrap n5) - (shl .i64 1 x15)))) w13
else
  k (.int .i64 (IntKind.i64.wrap n5)) w13
/-- spacecraft params.value -/
def F27 (d1 : Int) (d2 : Int) (d3 : Bool) (d4 : Int) (n5 : Int) (w6 : World) (k : Value → World → Prop) : Prop :=
  New w6 43 [.int .i64 d1, .int .i64 d2, .bool d3, .int .i64 d4] (fun p7 w8 => ∃ (x18 : Bool), w8.cell? (p7.add 2) = some (.bool x18) ∧ if x18 = true then
  ∃ (x21 : Int), w8.cell? (p7.add 1) = some (.int .i64 x21) ∧ (0 : Int) ≤ IntKind.i64.wrap (x21 - 1) ∧ F27_j1 p7 n5 (decide ((shr .u64 n5 (IntKind.i64.wrap (x21 - 1))) = 1)) w8 k
else
  F27_j1 p7 n5 false w8 k)
set_option maxRecDepth 100000 in
set_option maxHeartbeats 2000000 in
theorem w27 (d1 : Int) (d2 : Int) (d3 : Bool) (d4 : Int) (n5 : Int) (w6 : World) (k : Value → World → Prop) (h : F27 d1 d2 d3 d4 n5 w6 k) : Does Try.prog 27 #[.agg #[.int .i64 d1, .int .i64 d2, .bool d3, .int .i64 d4], .int .u64 n5] w6 k := by
  refine enter 23 Try.func27 rfl rfl rfl ?_
  intro ρ hρ
  have e0 := hρ 0 _ rfl
  have e1 := hρ 1 _ rfl
  unfold F27 at h
  refine WC_seq ?_
  refine WC_region ?_
  have h := New.out h
  refine WL_val gd0 (o_box (v := .agg #[.int .i64 d1, .int .i64 d2, .bool d3, .int .i64 d4]) (cs := [.int .i64 d1, .int .i64 d2, .bool d3, .int .i64 d4]) (by exact e0) rfl) rfl ?_
  generalize hp7 : fresh w6 = p7 at h ⊢
  generalize hw8 : push w6 43 [.int .i64 d1, .int .i64 d2, .bool d3, .int .i64 d4] = w8 at h ⊢
  try dsimp only at h
  refine WL_val gd0 ((o_assign (v := .int .i64 0) rfl) _) rfl ?_
  refine WL_nil ?_
  refine nrm ?_
  refine WC_seq ?_
  refine WC_cut (fun ρ w' => ∃ (t12 : Bool), ρ 14 = .bool t12 ∧ ρ 1 = .int .u64 n5 ∧ ρ 2 = .pointer (some p7) ∧ F27_j1 p7 n5 t12 w' k) ?_ ?_
  · refine WC_region ?_
    refine WL_val gd0 ((o_fieldAddr 2 Try.underlying43 rfl Try.sizeOf4 rfl rfl rfl) _) rfl ?_
    obtain ⟨x18, hc19, h⟩ := h
    refine WL_val gd0 (o_load Try.isAgg4 rfl hc19) rfl ?_
    refine WL_val gd0 ((o_move (v := .bool x18) rfl) _) rfl ?_
    refine bsplit x18 (fun hb20 => ?_) (fun hb20 => ?_)
    · rw [if_pos hb20] at h
      refine WL_val (gdY (b := x18) 7 rfl rfl hb20) ((o_move (v := .int .u64 n5) (by exact e1)) _) rfl ?_
      refine WL_val (gdY (b := x18) 7 rfl rfl hb20) ((o_fieldAddr 1 Try.underlying43 rfl Try.sizeOf3 rfl rfl rfl) _) rfl ?_
      obtain ⟨x21, hc22, h⟩ := h
      refine WL_val (gdY (b := x18) 7 rfl rfl hb20) (o_load Try.isAgg3 rfl hc22) rfl ?_
      refine WL_val (gdY (b := x18) 7 rfl rfl hb20) ((o_sub rfl rfl) _) rfl ?_
      obtain ⟨c23, h⟩ := h
      refine WL_val (gdY (b := x18) 7 rfl rfl hb20) ((o_shr rfl rfl c23) _) rfl ?_
      refine WL_val (gdY (b := x18) 7 rfl rfl hb20) ((o_eql rfl rfl) _) rfl ?_
      refine WL_val gd0 ((o_pickT (v := .bool (decide ((shr .u64 n5 (IntKind.i64.wrap (x21 - 1))) = 1))) rfl hb20 rfl) _) rfl ?_
      refine WL_nil ?_
      refine nrm ?_
      exact ⟨_, rfl, e1, rfl, h⟩
    · rw [if_neg (neT hb20)] at h
      refine WL_skip (gdN (b := x18) 7 rfl rfl hb20) rfl ?_
      refine WL_skip (gdN (b := x18) 7 rfl rfl hb20) rfl ?_
      refine WL_skip (gdN (b := x18) 7 rfl rfl hb20) rfl ?_
      refine WL_skip (gdN (b := x18) 7 rfl rfl hb20) rfl ?_
      refine WL_skip (gdN (b := x18) 7 rfl rfl hb20) rfl ?_
      refine WL_skip (gdN (b := x18) 7 rfl rfl hb20) rfl ?_
      refine WL_val gd0 ((o_pickF (v := .bool false) rfl hb20 rfl) _) rfl ?_
      refine WL_nil ?_
      refine nrm ?_
      exact ⟨_, rfl, e1, rfl, h⟩
  · rintro ρ w13 ⟨t12, e14_11, e1_9, e2_10, h⟩
    unfold F27_j1 at h
    refine WC_cond (t := t12) (by exact e14_11) (fun hb14 => ?_) (fun hb14 => ?_)
    · rw [if_pos hb14] at h
      refine WC_seq ?_
      refine WC_region ?_
      refine WL_val gd0 ((o_move (v := .int .u64 n5) (by exact e1_9)) _) rfl ?_
      refine WL_val gd0 ((o_conv Try.underlying72 Try.underlying3 rfl) _) rfl ?_
      refine WL_val gd0 ((o_fieldAddr 1 Try.underlying43 rfl Try.sizeOf3 rfl rfl (by exact e2_10)) _) rfl ?_
      obtain ⟨x15, hc16, h⟩ := h
      refine WL_val gd0 (o_load Try.isAgg3 rfl hc16) rfl ?_
      obtain ⟨c17, h⟩ := h
      refine WL_val gd0 ((o_shl rfl rfl c17) _) rfl ?_
      refine WL_val gd0 ((o_sub rfl rfl) _) rfl ?_
      refine WL_val gd0 ((o_assign (v := .int .i64 (IntKind.i64.wrap ((IntKind.i64.wrap n5) - (shl .i64 1 x15)))) rfl) _) rfl ?_
      refine WL_nil ?_
      refine nrm ?_
      refine WC_ret ?_
      refine rtT ?_
      refine rtE ?_
      exact gv1 rfl rfl h
    · rw [if_neg (neT hb14)] at h
      refine WC_skip ?_
      refine nrm ?_
      refine WC_seq ?_
      refine WC_region ?_
      refine WL_val gd0 ((o_move (v := .int .u64 n5) (by exact e1_9)) _) rfl ?_
      refine WL_val gd0 ((o_conv Try.underlying72 Try.underlying3 rfl) _) rfl ?_
      refine WL_val gd0 ((o_assign (v := .int .i64 (IntKind.i64.wrap n5)) rfl) _) rfl ?_
      refine WL_nil ?_
      refine nrm ?_
      refine WC_ret ?_
      refine rtE ?_
      exact gv1 rfl rfl h

def F28_b2 (width2 : Int) (r1 : Option Addr) (n19 : Int) (t22 : Int) (w23 : World) (nx23 : Int → Int → World → Prop) (k : Value → World → Prop) : Prop :=
  if t22 < width2 then
  ∃ (p26 : Addr), r1 = some p26 ∧ ∃ (x_a28 : Option Addr) (x_n29 x_c30 : Nat), w23.drew.cell? (p26.add 1) = some (.slice x_a28 x_n29 x_c30) ∧ ∃ (x32 : Int), w23.drew.cell? (p26.add 2) = some (.int .i64 x32) ∧ ∃ (p36 : Addr), x_a28 = some p36 ∧ (0 : Int) ≤ IntKind.i64.wrap (Int.tdiv x32 8) ∧ IntKind.i64.wrap (Int.tdiv x32 8) < (x_n29 : Int) ∧ ∃ (x38 : Int), w23.drew.cell? (p36.add ((IntKind.i64.wrap (Int.tdiv x32 8)).toNat)) = some (.int .u8 x38) ∧ ∃ (x40 : Int), w23.drew.cell? (p26.add 2) = some (.int .i64 x40) ∧ (0 : Int) ≤ IntKind.i64.wrap (7 - (Int.tmod x40 8)) ∧ ∃ (x43 : Int), w23.drew.cell? (p26.add 2) = some (.int .i64 x43) ∧ Put w23.drew (p26.add 2) (.int .i64 (IntKind.i64.wrap (x43 + 1))) (fun w45 => nx23 (bor .u64 (shl .u64 n19 1) (IntKind.u64.wrap (band .u8 (shr .u8 x38 (IntKind.i64.wrap (7 - (Int.tmod x40 8)))) 1))) (IntKind.i64.wrap (t22 + 1)) w45)
else
  k (.int .u64 n19) w23
def F28_j1 (r1 : Option Addr) (width2 : Int) (t10 : Bool) (w11 : World) (k : Value → World → Prop) : Prop :=
  if t10 = true then
  ∃ (p13 : Addr), r1 = some p13 ∧ Put w11 (p13.add 3) (.bool true) (fun w15 => k (.int .u64 0) w15)
else
  LoopP (fun (s : Int × Int) w' nx' => F28_b2 width2 r1 (s.1) (s.2) w' (fun x0 x1 w => nx' (x0, x1) w) k) (0, 0) w11
/-- (*spacecraft bits.Reader).Get -/
def F28 (r1 : Option Addr) (width2 : Int) (w3 : World) (k : Value → World → Prop) : Prop :=
  Does Try.prog 43 #[.pointer r1] w3 (fun v w4 => ∃ (x5 : Bool), v = .bool x5 ∧ if (!x5) = true then
  k (.int .u64 0) w4
else
  if width2 < 0 then
    F28_j1 r1 width2 true w4 k
  else
    if 64 < width2 then
      F28_j1 r1 width2 true w4 k
    else
      Does Try.prog 29 #[.pointer r1] w4 (fun v w49 => ∃ (x50 : Int), v = .int .i64 x50 ∧ F28_j1 r1 width2 (decide (x50 < width2)) w49 k))
set_option maxRecDepth 100000 in
set_option maxHeartbeats 2000000 in
theorem w28 (r1 : Option Addr) (width2 : Int) (w3 : World) (k : Value → World → Prop) (h : F28 r1 width2 w3 k) : Does Try.prog 28 #[.pointer r1, .int .i64 width2] w3 k := by
  refine enter 59 Try.func28 rfl rfl rfl ?_
  intro ρ hρ
  have e0 := hρ 0 _ rfl
  have e1 := hρ 1 _ rfl
  unfold F28 at h
  refine WC_seq ?_
  refine WC_region ?_
  refine WL_val gd0 ((o_assign (v := .int .u64 0) rfl) _) rfl ?_
  refine WL_nil ?_
  refine nrm ?_
  refine WC_seq ?_
  refine WC_seq ?_
  refine WC_region ?_
  refine WL_val gd0 ((o_move (v := .pointer r1) (by exact e0)) _) rfl ?_
  refine WL_call gd0 (o_call Try.call43 (argCons rfl argNil) _) rfl (h.mono ?_)
  rintro _ w4 ⟨x5, rfl, h⟩
  refine WL_val gd0 ((o_not rfl) _) rfl ?_
  refine WL_nil ?_
  refine nrm ?_
  refine WC_cond (t := (!x5)) rfl (fun hb6 => ?_) (fun hb6 => ?_)
  · rw [if_pos hb6] at h
    refine WC_seq ?_
    refine WC_region ?_
    refine WL_val gd0 ((o_assign (v := .int .u64 0) rfl) _) rfl ?_
    refine WL_nil ?_
    refine nrm ?_
    refine WC_ret ?_
    refine rtT ?_
    refine rtE ?_
    exact gv1 rfl rfl h
  · rw [if_neg (neT hb6)] at h
    refine WC_skip ?_
    refine nrm ?_
    refine WC_seq ?_
    refine WC_cut (fun ρ w' => ∃ (t10 : Bool), ρ 20 = .bool t10 ∧ ρ 0 = .pointer r1 ∧ ρ 1 = .int .i64 width2 ∧ F28_j1 r1 width2 t10 w' k) ?_ ?_
    · refine WC_region ?_
      refine WL_val gd0 ((o_move (v := .int .i64 width2) (by exact e1)) _) rfl ?_
      refine WL_val gd0 ((o_lss rfl rfl) _) rfl ?_
      refine WL_val gd0 ((o_move (v := .bool (decide (width2 < 0))) rfl) _) rfl ?_
      refine bsplit (decide (width2 < 0)) (fun hb47 => ?_) (fun hb47 => ?_)
      · rw [if_pos (of_decide_eq_true hb47)] at h
        refine WL_skip (gdN (b := (decide (width2 < 0))) 11 rfl rfl hb47) rfl ?_
        refine WL_skip (gdN (b := (decide (width2 < 0))) 11 rfl rfl hb47) rfl ?_
        refine WL_val gd0 ((o_pickT (v := .bool true) rfl hb47 rfl) _) rfl ?_
        refine WL_val gd0 ((o_move (v := .bool true) rfl) _) rfl ?_
        refine WL_skip (gdN (b := true) 15 rfl rfl rfl) rfl ?_
        refine WL_skip (gdN (b := true) 15 rfl rfl rfl) rfl ?_
        refine WL_skip (gdN (b := true) 15 rfl rfl rfl) rfl ?_
        refine WL_skip (gdN (b := true) 15 rfl rfl rfl) rfl ?_
        refine WL_val gd0 ((o_pickT (v := .bool true) rfl rfl rfl) _) rfl ?_
        refine WL_nil ?_
        refine nrm ?_
        exact ⟨_, rfl, e0, e1, h⟩
      · rw [if_neg (of_decide_eq_false hb47)] at h
        refine WL_val (gdY (b := (decide (width2 < 0))) 11 rfl rfl hb47) ((o_move (v := .int .i64 width2) (by exact e1)) _) rfl ?_
        refine WL_val (gdY (b := (decide (width2 < 0))) 11 rfl rfl hb47) ((o_gtr rfl rfl) _) rfl ?_
        refine WL_val gd0 ((o_pickF (v := .bool (decide (64 < width2))) rfl hb47 rfl) _) rfl ?_
        refine WL_val gd0 ((o_move (v := .bool (decide (64 < width2))) rfl) _) rfl ?_
        refine bsplit (decide (64 < width2)) (fun hb48 => ?_) (fun hb48 => ?_)
        · rw [if_pos (of_decide_eq_true hb48)] at h
          refine WL_skip (gdN (b := (decide (64 < width2))) 15 rfl rfl hb48) rfl ?_
          refine WL_skip (gdN (b := (decide (64 < width2))) 15 rfl rfl hb48) rfl ?_
          refine WL_skip (gdN (b := (decide (64 < width2))) 15 rfl rfl hb48) rfl ?_
          refine WL_skip (gdN (b := (decide (64 < width2))) 15 rfl rfl hb48) rfl ?_
          refine WL_val gd0 ((o_pickT (v := .bool true) rfl hb48 rfl) _) rfl ?_
          refine WL_nil ?_
          refine nrm ?_
          exact ⟨_, rfl, e0, e1, h⟩
        · rw [if_neg (of_decide_eq_false hb48)] at h
          refine WL_val (gdY (b := (decide (64 < width2))) 15 rfl rfl hb48) ((o_move (v := .int .i64 width2) (by exact e1)) _) rfl ?_
          refine WL_val (gdY (b := (decide (64 < width2))) 15 rfl rfl hb48) ((o_move (v := .pointer r1) (by exact e0)) _) rfl ?_
          refine WL_call (gdY (b := (decide (64 < width2))) 15 rfl rfl hb48) (o_call Try.call29 (argCons rfl argNil) _) rfl (h.mono ?_)
          rintro _ w49 ⟨x50, rfl, h⟩
          refine WL_val (gdY (b := (decide (64 < width2))) 15 rfl rfl hb48) ((o_gtr rfl rfl) _) rfl ?_
          refine WL_val gd0 ((o_pickF (v := .bool (decide (x50 < width2))) rfl hb48 rfl) _) rfl ?_
          refine WL_nil ?_
          refine nrm ?_
          exact ⟨_, rfl, e0, e1, h⟩
    · rintro ρ w11 ⟨t10, e20_9, e0_7, e1_8, h⟩
      unfold F28_j1 at h
      refine WC_cond (t := t10) (by exact e20_9) (fun hb12 => ?_) (fun hb12 => ?_)
      · rw [if_pos hb12] at h
        refine WC_seq ?_
        refine WC_region ?_
        refine WL_val gd0 ((o_move (v := .pointer r1) (by exact e0_7)) _) rfl ?_
        obtain ⟨p13, q14, h⟩ := h
        refine WL_val gd0 ((o_nilCheck (by exact (congrArg Value.pointer q14))) _) rfl ?_
        refine WL_val gd0 ((o_fieldAddr 3 Try.underlying90 rfl Try.sizeOf4 rfl rfl rfl) _) rfl ?_
        obtain ⟨c16, h⟩ := h
        refine WL_act gd0 (o_store (v := .bool true) Try.sizeOf4 rfl rfl rfl c16) ?_
        generalize hw15 : World.setCell w11 (p13.add 3) (.bool true) = w15 at h ⊢
        try dsimp only at h
        refine WL_nil ?_
        refine nrm ?_
        refine WC_seq ?_
        refine WC_region ?_
        refine WL_val gd0 ((o_assign (v := .int .u64 0) rfl) _) rfl ?_
        refine WL_nil ?_
        refine nrm ?_
        refine WC_ret ?_
        refine rtT ?_
        refine rtE ?_
        exact gv1 rfl rfl h
      · rw [if_neg (neT hb12)] at h
        refine WC_skip ?_
        refine nrm ?_
        refine WC_seq ?_
        refine WC_region ?_
        refine WL_val gd0 ((o_assign (v := .int .u64 0) rfl) _) rfl ?_
        refine WL_nil ?_
        refine nrm ?_
        refine WC_seq ?_
        refine WC_seq ?_
        refine WC_region ?_
        refine WL_val gd0 ((o_move (v := .int .i64 width2) (by exact e1_8)) _) rfl ?_
        refine WL_val gd0 ((o_move (v := .int .i64 0) rfl) _) rfl ?_
        refine WL_nil ?_
        refine nrm ?_
        refine WC_block ?_
        obtain ⟨J23, ⟨n23, h0⟩, hr23⟩ := h
        refine WC_loop (fun n ρ w' => ∃ (n19 t22 : Int), ρ 5 = .int .u64 n19 ∧ ρ 25 = .int .i64 t22 ∧ ρ 0 = .pointer r1 ∧ ρ 24 = .int .i64 width2 ∧ J23 n (n19, t22) w') ⟨n23, _, _, rfl, rfl, e0_7, rfl, h0⟩ ?_
        rintro n23 ρ w23 ⟨n19, t22, e5_18, e25_21, e0_17, e24_20, h⟩
        have h : F28_b2 width2 r1 n19 t22 w23 (fun x0 x1 w => ∃ m, m < n23 ∧ J23 m (x0, x1) w) k := hr23 n23 (n19, t22) w23 h
        unfold F28_b2 at h
        refine WC_seq ?_
        refine WC_region ?_
        refine WL_val gd0 ((o_lss (by exact e25_21) (by exact e24_20)) _) rfl ?_
        refine WL_nil ?_
        refine nrm ?_
        refine WC_seq ?_
        refine WC_cond (t := (decide (t22 < width2))) rfl (fun hb25 => ?_) (fun hb25 => ?_)
        · rw [if_pos (of_decide_eq_true hb25)] at h
          refine WC_skip ?_
          refine nrm ?_
          refine WC_seq ?_
          refine WC_block ?_
          refine WC_seq ?_
          refine WC_draws [] (.look 0 (.look 1 (.look 2 (.look 3 (.look 4 (.look 5 (.look 6 (.look 7 (.look 8 (.look 9 (.look 10 (.look 11 (.look 12 (.look 13 (.look 14 (.look 15 (.look 16 (.look 17 (.look 18 (.look 19 (.look 20 (.look 21 (.look 22 (.look 23 .nil)))))))))))))))))))))))) Try.mixed (by kernel_rfl) ?_
          refine WQ_val rfl gd0 (o_move (v := .int .u64 n19) (by exact e5_18)) rfl ?_
          refine WQ_val rfl gd0 (o_shl rfl rfl (by decide)) rfl ?_
          refine WQ_val rfl gd0 (o_move (v := .pointer r1) (by exact e0_17)) rfl ?_
          obtain ⟨p26, q27, h⟩ := h
          refine WQ_val rfl gd0 (o_nilCheck (by exact (congrArg Value.pointer q27))) rfl ?_
          refine WQ_val rfl gd0 (o_fieldAddr 1 Try.underlying90 rfl Try.sizeOf24 rfl rfl rfl) rfl ?_
          obtain ⟨x_a28, x_n29, x_c30, hc31, h⟩ := h
          refine WQ_look (fun w => w.cell? (p26.add 1) = some (.slice x_a28 x_n29 x_c30)) rfl gd0 (fun w hc => (o_load Try.isAgg24 rfl hc)) hc31 rfl ?_
          refine WQ_val rfl gd0 (o_move (v := .pointer r1) (by exact e0_17)) rfl ?_
          refine WQ_val rfl gd0 (o_nilCheck (by exact (congrArg Value.pointer q27))) rfl ?_
          refine WQ_val rfl gd0 (o_fieldAddr 2 Try.underlying90 rfl Try.sizeOf3 rfl rfl rfl) rfl ?_
          obtain ⟨x32, hc33, h⟩ := h
          refine WQ_look (fun w => w.cell? (p26.add 2) = some (.int .i64 x32)) rfl gd0 (fun w hc => (o_load Try.isAgg3 rfl hc)) hc33 rfl ?_
          refine WQ_val rfl gd0 (fun w => o_quo rfl rfl w (by decide)) rfl ?_
          obtain ⟨p36, q37, h⟩ := h
          obtain ⟨l34, u35, h⟩ := h
          refine WQ_val rfl gd0 (o_indexAddr1 Try.underlying24 Try.sizeOf5 (by exact (congrArg (fun z => Value.slice z x_n29 x_c30) q37)) rfl l34 u35) rfl ?_
          obtain ⟨x38, hc39, h⟩ := h
          refine WQ_look (fun w => w.cell? (p36.add ((IntKind.i64.wrap (Int.tdiv x32 8)).toNat)) = some (.int .u8 x38)) rfl gd0 (fun w hc => (o_load Try.isAgg5 rfl hc)) hc39 rfl ?_
          refine WQ_val rfl gd0 (o_move (v := .pointer r1) (by exact e0_17)) rfl ?_
          refine WQ_val rfl gd0 (o_nilCheck (by exact (congrArg Value.pointer q27))) rfl ?_
          refine WQ_val rfl gd0 (o_fieldAddr 2 Try.underlying90 rfl Try.sizeOf3 rfl rfl rfl) rfl ?_
          obtain ⟨x40, hc41, h⟩ := h
          refine WQ_look (fun w => w.cell? (p26.add 2) = some (.int .i64 x40)) rfl gd0 (fun w hc => (o_load Try.isAgg3 rfl hc)) hc41 rfl ?_
          refine WQ_val rfl gd0 (fun w => o_rem rfl rfl w (by decide)) rfl ?_
          refine WQ_val rfl gd0 (o_sub rfl rfl) rfl ?_
          obtain ⟨c42, h⟩ := h
          refine WQ_val rfl gd0 (o_shr rfl rfl c42) rfl ?_
          refine WQ_val rfl gd0 (o_and rfl rfl) rfl ?_
          refine WQ_val rfl gd0 (o_conv Try.underlying5 Try.underlying72 rfl) rfl ?_
          refine WQ_val rfl gd0 (o_or rfl rfl) rfl ?_
          refine WQ_val rfl gd0 (o_assign (v := .int .u64 (bor .u64 (shl .u64 n19 1) (IntKind.u64.wrap (band .u8 (shr .u8 x38 (IntKind.i64.wrap (7 - (Int.tmod x40 8)))) 1)))) rfl) rfl ?_
          refine WQ_nil ?_
          refine nrm ?_
          refine WC_region ?_
          refine WL_val gd0 ((o_move (v := .pointer r1) (by exact e0_17)) _) rfl ?_
          refine WL_val gd0 ((o_nilCheck (by exact (congrArg Value.pointer q27))) _) rfl ?_
          refine WL_val gd0 ((o_fieldAddr 2 Try.underlying90 rfl Try.sizeOf3 rfl rfl rfl) _) rfl ?_
          obtain ⟨x43, hc44, h⟩ := h
          refine WL_val gd0 (o_load Try.isAgg3 rfl hc44) rfl ?_
          refine WL_val gd0 ((o_add rfl rfl) _) rfl ?_
          refine WL_val gd0 ((o_nilCheck (by exact (congrArg Value.pointer q27))) _) rfl ?_
          refine WL_val gd0 ((o_fieldAddr 2 Try.underlying90 rfl Try.sizeOf3 rfl rfl rfl) _) rfl ?_
          obtain ⟨c46, h⟩ := h
          refine WL_act gd0 (o_store (v := .int .i64 (IntKind.i64.wrap (x43 + 1))) Try.sizeOf3 rfl rfl rfl c46) ?_
          generalize hw45 : World.setCell w23.drew (p26.add 2) (.int .i64 (IntKind.i64.wrap (x43 + 1))) = w45 at h ⊢
          try dsimp only at h
          refine WL_nil ?_
          refine nrmB ?_
          refine nrm ?_
          refine WC_region ?_
          refine WL_val gd0 ((o_add (by exact e25_21) rfl) _) rfl ?_
          refine WL_val gd0 ((o_move (v := .int .i64 (IntKind.i64.wrap (t22 + 1))) rfl) _) rfl ?_
          refine WL_nil ?_
          refine nrm ?_
          obtain ⟨m24, hm24, h⟩ := h
          exact ⟨m24, hm24, _, _, rfl, rfl, e0_17, e24_20, h⟩
        · rw [if_neg (of_decide_eq_false hb25)] at h
          refine WC_exit ?_
          refine exT ?_
          refine exT ?_
          refine exB ?_
          refine nrm ?_
          refine WC_seq ?_
          refine WC_region ?_
          refine WL_val gd0 ((o_move (v := .int .u64 n19) (by exact e5_18)) _) rfl ?_
          refine WL_val gd0 ((o_assign (v := .int .u64 n19) rfl) _) rfl ?_
          refine WL_nil ?_
          refine nrm ?_
          refine WC_ret ?_
          refine rtE ?_
          exact gv1 rfl rfl h

/-- (*spacecraft bits.Reader).Left -/
def F29 (r1 : Option Addr) (w2 : World) (k : Value → World → Prop) : Prop :=
  Does Try.prog 43 #[.pointer r1] w2 (fun v w3 => ∃ (x4 : Bool), v = .bool x4 ∧ if (!x4) = true then
  k (.int .i64 0) w3
else
  ∃ (p6 : Addr), r1 = some p6 ∧ ∃ (x_a8 : Option Addr) (x_n9 x_c10 : Nat), w3.drew.cell? (p6.add 1) = some (.slice x_a8 x_n9 x_c10) ∧ ∃ (x12 : Int), w3.drew.cell? (p6.add 2) = some (.int .i64 x12) ∧ k (.int .i64 (IntKind.i64.wrap ((IntKind.i64.wrap (8 * (x_n9 : Int))) - x12))) w3.drew)
set_option maxRecDepth 100000 in
set_option maxHeartbeats 2000000 in
theorem w29 (r1 : Option Addr) (w2 : World) (k : Value → World → Prop) (h : F29 r1 w2 k) : Does Try.prog 29 #[.pointer r1] w2 k := by
  refine enter 17 Try.func29 rfl rfl rfl ?_
  intro ρ hρ
  have e0 := hρ 0 _ rfl
  unfold F29 at h
  refine WC_seq ?_
  refine WC_region ?_
  refine WL_val gd0 ((o_assign (v := .int .i64 0) rfl) _) rfl ?_
  refine WL_nil ?_
  refine nrm ?_
  refine WC_seq ?_
  refine WC_seq ?_
  refine WC_region ?_
  refine WL_val gd0 ((o_move (v := .pointer r1) (by exact e0)) _) rfl ?_
  refine WL_call gd0 (o_call Try.call43 (argCons rfl argNil) _) rfl (h.mono ?_)
  rintro _ w3 ⟨x4, rfl, h⟩
  refine WL_val gd0 ((o_not rfl) _) rfl ?_
  refine WL_nil ?_
  refine nrm ?_
  refine WC_cond (t := (!x4)) rfl (fun hb5 => ?_) (fun hb5 => ?_)
  · rw [if_pos hb5] at h
    refine WC_seq ?_
    refine WC_region ?_
    refine WL_val gd0 ((o_assign (v := .int .i64 0) rfl) _) rfl ?_
    refine WL_nil ?_
    refine nrm ?_
    refine WC_ret ?_
    refine rtT ?_
    refine rtE ?_
    exact gv1 rfl rfl h
  · rw [if_neg (neT hb5)] at h
    refine WC_skip ?_
    refine nrm ?_
    refine WC_seq ?_
    refine WC_draws [] (.look 0 (.look 1 (.look 2 (.look 3 (.look 4 (.look 5 (.look 6 (.look 7 (.look 8 (.look 9 (.look 10 (.look 11 .nil)))))))))))) Try.mixed (by kernel_rfl) ?_
    refine WQ_val rfl gd0 (o_move (v := .pointer r1) (by exact e0)) rfl ?_
    obtain ⟨p6, q7, h⟩ := h
    refine WQ_val rfl gd0 (o_nilCheck (by exact (congrArg Value.pointer q7))) rfl ?_
    refine WQ_val rfl gd0 (o_fieldAddr 1 Try.underlying90 rfl Try.sizeOf24 rfl rfl rfl) rfl ?_
    obtain ⟨x_a8, x_n9, x_c10, hc11, h⟩ := h
    refine WQ_look (fun w => w.cell? (p6.add 1) = some (.slice x_a8 x_n9 x_c10)) rfl gd0 (fun w hc => (o_load Try.isAgg24 rfl hc)) hc11 rfl ?_
    refine WQ_val rfl gd0 (o_len Try.underlying24 rfl) rfl ?_
    refine WQ_val rfl gd0 (o_mul rfl rfl) rfl ?_
    refine WQ_val rfl gd0 (o_move (v := .pointer r1) (by exact e0)) rfl ?_
    refine WQ_val rfl gd0 (o_nilCheck (by exact (congrArg Value.pointer q7))) rfl ?_
    refine WQ_val rfl gd0 (o_fieldAddr 2 Try.underlying90 rfl Try.sizeOf3 rfl rfl rfl) rfl ?_
    obtain ⟨x12, hc13, h⟩ := h
    refine WQ_look (fun w => w.cell? (p6.add 2) = some (.int .i64 x12)) rfl gd0 (fun w hc => (o_load Try.isAgg3 rfl hc)) hc13 rfl ?_
    refine WQ_val rfl gd0 (o_sub rfl rfl) rfl ?_
    refine WQ_val rfl gd0 (o_assign (v := .int .i64 (IntKind.i64.wrap ((IntKind.i64.wrap (8 * (x_n9 : Int))) - x12))) rfl) rfl ?_
    refine WQ_nil ?_
    refine nrm ?_
    refine WC_ret ?_
    refine rtE ?_
    exact gv1 rfl rfl h

def F30_b1 (l_n2 : Nat) (l_a1 : Option Addr) (i8 : Int) (w9 : World) (k : Value → World → Prop) (nx9 : Int → World → Prop) : Prop :=
  if i8 < (l_n2 : Int) then
  ∃ (p14 : Addr), l_a1 = some p14 ∧ (0 : Int) ≤ i8 ∧ i8 < (l_n2 : Int) ∧ ∃ (x16 x17 : Int) (x18 : Bool) (x19 : Int), Cells w9 (p14.add (i8.toNat * 4)) 0 [.int .i64 x16, .int .i64 x17, .bool x18, .int .i64 x19] ∧ New w9 43 [.int .i64 0, .int .i64 0, .bool false, .int .i64 0] (fun p21 w22 => PutAll w22 p21 [.int .i64 x16, .int .i64 x17, .bool x18, .int .i64 x19] (fun w23 => ∃ (x25 : Int), w23.drew.cell? p21 = some (.int .i64 x25) ∧ if x25 < 0 then
    k (.int .i64 1) w23.drew
  else
    ∃ (x28 : Int), w23.drew.cell? p21 = some (.int .i64 x28) ∧ if 65535 < x28 then
      k (.int .i64 1) w23.drew
    else
      if 0 < i8 then
        (0 : Int) ≤ IntKind.i64.wrap (i8 - 1) ∧ IntKind.i64.wrap (i8 - 1) < (l_n2 : Int) ∧ ∃ (x34 : Int), w23.drew.cell? (p14.add (((IntKind.i64.wrap (i8 - 1)).toNat) * 4)) = some (.int .i64 x34) ∧ ∃ (x36 : Int), w23.drew.cell? p21 = some (.int .i64 x36) ∧ if x36 ≤ x34 then
          k (.int .i64 1) w23.drew
        else
          ∃ (x39 : Int), w23.drew.cell? (p21.add 1) = some (.int .i64 x39) ∧ if x39 < 1 then
            k (.int .i64 1) w23.drew
          else
            ∃ (x42 : Int), w23.drew.cell? (p21.add 1) = some (.int .i64 x42) ∧ if 32 < x42 then
              k (.int .i64 1) w23.drew
            else
              ∃ (x45 x46 : Int) (x47 : Bool) (x48 : Int), Cells w23.drew p21 0 [.int .i64 x45, .int .i64 x46, .bool x47, .int .i64 x48] ∧ ∃ (x50 : Int), w23.drew.cell? (p21.add 3) = some (.int .i64 x50) ∧ Does Try.prog 41 #[.agg #[.int .i64 x45, .int .i64 x46, .bool x47, .int .i64 x48], .int .i64 x50] w23.drew (fun v w52 => ∃ (x53 : Bool), v = .bool x53 ∧ if (!x53) = true then
                k (.int .i64 1) w52
              else
                nx9 (IntKind.i64.wrap (i8 + 1)) w52)
      else
        ∃ (x55 : Int), w23.drew.cell? (p21.add 1) = some (.int .i64 x55) ∧ if x55 < 1 then
          k (.int .i64 1) w23.drew
        else
          ∃ (x58 : Int), w23.drew.cell? (p21.add 1) = some (.int .i64 x58) ∧ if 32 < x58 then
            k (.int .i64 1) w23.drew
          else
            ∃ (x61 x62 : Int) (x63 : Bool) (x64 : Int), Cells w23.drew p21 0 [.int .i64 x61, .int .i64 x62, .bool x63, .int .i64 x64] ∧ ∃ (x66 : Int), w23.drew.cell? (p21.add 3) = some (.int .i64 x66) ∧ Does Try.prog 41 #[.agg #[.int .i64 x61, .int .i64 x62, .bool x63, .int .i64 x64], .int .i64 x66] w23.drew (fun v w68 => ∃ (x69 : Bool), v = .bool x69 ∧ if (!x69) = true then
              k (.int .i64 1) w68
            else
              nx9 (IntKind.i64.wrap (i8 + 1)) w68)))
else
  k (.int .i64 0) w9
/-- spacecraft spacecraftref33.check -/
def F30 (l_a1 : Option Addr) (l_n2 : Nat) (l_c3 : Nat) (w4 : World) (k : Value → World → Prop) : Prop :=
  if 256 < (l_n2 : Int) then
  k (.int .i64 6) w4
else
  LoopP (fun (s : Int) w' nx' => F30_b1 l_n2 l_a1 s w' k (fun x0 w => nx' x0 w)) 0 w4
set_option maxRecDepth 100000 in
set_option maxHeartbeats 2000000 in
theorem w30 (l_a1 : Option Addr) (l_n2 : Nat) (l_c3 : Nat) (w4 : World) (k : Value → World → Prop) (h : F30 l_a1 l_n2 l_c3 w4 k) : Does Try.prog 30 #[.slice l_a1 l_n2 l_c3] w4 k := by
  refine enter 58 Try.func30 rfl rfl rfl ?_
  intro ρ hρ
  have e0 := hρ 0 _ rfl
  unfold F30 at h
  refine WC_seq ?_
  refine WC_region ?_
  refine WL_val gd0 ((o_assign (v := .int .i64 0) rfl) _) rfl ?_
  refine WL_nil ?_
  refine nrm ?_
  refine WC_seq ?_
  refine WC_seq ?_
  refine WC_region ?_
  refine WL_val gd0 ((o_move (v := .slice l_a1 l_n2 l_c3) (by exact e0)) _) rfl ?_
  refine WL_val gd0 ((o_len Try.underlying22 rfl) _) rfl ?_
  refine WL_val gd0 ((o_gtr rfl rfl) _) rfl ?_
  refine WL_nil ?_
  refine nrm ?_
  refine WC_cond (t := (decide (256 < (l_n2 : Int)))) rfl (fun hb5 => ?_) (fun hb5 => ?_)
  · rw [if_pos (of_decide_eq_true hb5)] at h
    refine WC_seq ?_
    refine WC_region ?_
    refine WL_val gd0 ((o_assign (v := .int .i64 6) rfl) _) rfl ?_
    refine WL_nil ?_
    refine nrm ?_
    refine WC_ret ?_
    refine rtT ?_
    refine rtE ?_
    exact gv1 rfl rfl h
  · rw [if_neg (of_decide_eq_false hb5)] at h
    refine WC_skip ?_
    refine nrm ?_
    refine WC_seq ?_
    refine WC_seq ?_
    refine WC_region ?_
    refine WL_val gd0 ((o_assign (v := .int .i64 0) rfl) _) rfl ?_
    refine WL_nil ?_
    refine nrm ?_
    refine WC_block ?_
    obtain ⟨J9, ⟨n9, h0⟩, hr9⟩ := h
    refine WC_loop (fun n ρ w' => ∃ (i8 : Int), ρ 3 = .int .i64 i8 ∧ ρ 0 = .slice l_a1 l_n2 l_c3 ∧ J9 n i8 w') ⟨n9, _, rfl, e0, h0⟩ ?_
    rintro n9 ρ w9 ⟨i8, e3_7, e0_6, h⟩
    have h : F30_b1 l_n2 l_a1 i8 w9 k (fun x0 w => ∃ m, m < n9 ∧ J9 m x0 w) := hr9 n9 i8 w9 h
    unfold F30_b1 at h
    refine WC_seq ?_
    refine WC_seq ?_
    refine WC_region ?_
    refine WL_val gd0 ((o_move (v := .int .i64 i8) (by exact e3_7)) _) rfl ?_
    refine WL_val gd0 ((o_move (v := .slice l_a1 l_n2 l_c3) (by exact e0_6)) _) rfl ?_
    refine WL_val gd0 ((o_len Try.underlying22 rfl) _) rfl ?_
    refine WL_val gd0 ((o_lss rfl rfl) _) rfl ?_
    refine WL_nil ?_
    refine nrm ?_
    refine WC_cond (t := (decide (i8 < (l_n2 : Int)))) rfl (fun hb11 => ?_) (fun hb11 => ?_)
    · rw [if_pos (of_decide_eq_true hb11)] at h
      refine WC_skip ?_
      refine nrm ?_
      refine WC_seq ?_
      refine WC_block ?_
      refine WC_seq ?_
      refine WC_region ?_
      refine WL_val gd0 ((o_move (v := .slice l_a1 l_n2 l_c3) (by exact e0_6)) _) rfl ?_
      refine WL_val gd0 ((o_move (v := .int .i64 i8) (by exact e3_7)) _) rfl ?_
      obtain ⟨p14, q15, h⟩ := h
      obtain ⟨l12, u13, h⟩ := h
      refine WL_val gd0 ((o_indexAddr Try.underlying22 Try.sizeOf43 (by exact (congrArg (fun z => Value.slice z l_n2 l_c3) q15)) rfl l12 u13) _) rfl ?_
      obtain ⟨x16, x17, x18, x19, hc20, h⟩ := h
      refine WL_val gd0 (o_loadAgg (vs := [.int .i64 x16, .int .i64 x17, .bool x18, .int .i64 x19]) Try.isAgg43 Try.sizeOf43 rfl hc20) rfl ?_
      have h := New.out h
      refine WL_val gd0 (o_alloc (z := .agg #[.int .i64 0, .int .i64 0, .bool false, .int .i64 0]) (cs := [.int .i64 0, .int .i64 0, .bool false, .int .i64 0]) Try.zeroValue43 rfl) rfl ?_
      generalize hp21 : fresh w9 = p21 at h ⊢
      generalize hw22 : push w9 43 [.int .i64 0, .int .i64 0, .bool false, .int .i64 0] = w22 at h ⊢
      try dsimp only at h
      obtain ⟨c24, h⟩ := h
      refine WL_act gd0 (o_storeAgg (vs := [.int .i64 x16, .int .i64 x17, .bool x18, .int .i64 x19]) Try.sizeOf43 rfl rfl rfl c24) ?_
      generalize hw23 : setAll w22 p21 0 [.int .i64 x16, .int .i64 x17, .bool x18, .int .i64 x19] = w23 at h ⊢
      try dsimp only at h
      refine WL_nil ?_
      refine nrm ?_
      refine WC_seq ?_
      refine WC_draws [37] (.look 0 (.look 1 (.look 2 (.look 3 (.look 4 (.look 5 (.look 6 (.look 7 (.look 8 (.look 9 (.look 10 (.look 11 (.look 12 (.look 13 (.look 14 (.look 15 (.look 16 (.look 17 (.look 18 (.look 19 (.look 20 (.look 21 (.look 22 (.look 23 (.look 24 (.look 25 (.look 26 (.look 27 (.look 28 (.look 29 (.look 30 (.look 31 (.look 32 (.look 33 (.look 34 (.look 35 (.look 36 (.act 37 (.look 38 (.look 39 .nil)))))))))))))))))))))))))))))))))))))))) Try.mixed (by kernel_rfl) ?_
      refine WQ_val rfl gd0 (o_fieldAddr0 Try.underlying43 rfl Try.sizeOf3 rfl rfl rfl) rfl ?_
      obtain ⟨x25, hc26, h⟩ := h
      refine WQ_look (fun w => w.cell? p21 = some (.int .i64 x25)) rfl gd0 (fun w hc => (o_load Try.isAgg3 rfl hc)) hc26 rfl ?_
      refine WQ_val rfl gd0 (o_lss rfl rfl) rfl ?_
      refine WQ_val rfl gd0 (o_move (v := .bool (decide (x25 < 0))) rfl) rfl ?_
      refine bsplit (decide (x25 < 0)) (fun hb27 => ?_) (fun hb27 => ?_)
      · rw [if_pos (of_decide_eq_true hb27)] at h
        refine WQ_skip rfl (gdN (b := (decide (x25 < 0))) 21 rfl rfl hb27) rfl ?_
        refine WQ_skip rfl (gdN (b := (decide (x25 < 0))) 21 rfl rfl hb27) rfl ?_
        refine WQ_skip rfl (gdN (b := (decide (x25 < 0))) 21 rfl rfl hb27) rfl ?_
        refine WQ_val rfl gd0 (o_pickT (v := .bool true) rfl hb27 rfl) rfl ?_
        refine WQ_val rfl gd0 (o_move (v := .bool true) rfl) rfl ?_
        refine WQ_skip rfl (gdN (b := true) 26 rfl rfl rfl) rfl ?_
        refine WQ_skip rfl (gdN (b := true) 26 rfl rfl rfl) rfl ?_
        refine WQ_skip rfl (gdN (b := true) 26 rfl rfl rfl) rfl ?_
        refine WQ_skip rfl (gdU 29 rfl rfl) rfl ?_
        refine WQ_skip rfl (gdU 29 rfl rfl) rfl ?_
        refine WQ_skip rfl (gdU 29 rfl rfl) rfl ?_
        refine WQ_skip rfl (gdU 29 rfl rfl) rfl ?_
        refine WQ_skip rfl (gdU 29 rfl rfl) rfl ?_
        refine WQ_skip rfl (gdU 29 rfl rfl) rfl ?_
        refine WQ_skip rfl (gdU 29 rfl rfl) rfl ?_
        refine WQ_skip rfl (gdU 29 rfl rfl) rfl ?_
        refine WQ_skip rfl (gdU 29 rfl rfl) rfl ?_
        refine WQ_skip rfl (gdN (b := true) 26 rfl rfl rfl) rfl ?_
        refine WQ_val rfl gd0 (o_pickT (v := .bool true) rfl rfl rfl) rfl ?_
        refine WQ_val rfl gd0 (o_move (v := .bool true) rfl) rfl ?_
        refine WQ_skip rfl (gdN (b := true) 41 rfl rfl rfl) rfl ?_
        refine WQ_skip rfl (gdN (b := true) 41 rfl rfl rfl) rfl ?_
        refine WQ_skip rfl (gdN (b := true) 41 rfl rfl rfl) rfl ?_
        refine WQ_val rfl gd0 (o_pickT (v := .bool true) rfl rfl rfl) rfl ?_
        refine WQ_val rfl gd0 (o_move (v := .bool true) rfl) rfl ?_
        refine WQ_skip rfl (gdN (b := true) 46 rfl rfl rfl) rfl ?_
        refine WQ_skip rfl (gdN (b := true) 46 rfl rfl rfl) rfl ?_
        refine WQ_skip rfl (gdN (b := true) 46 rfl rfl rfl) rfl ?_
        refine WQ_val rfl gd0 (o_pickT (v := .bool true) rfl rfl rfl) rfl ?_
        refine WQ_val rfl gd0 (o_move (v := .bool true) rfl) rfl ?_
        refine WQ_skip rfl (gdN (b := true) 51 rfl rfl rfl) rfl ?_
        refine WQ_skip rfl (gdN (b := true) 51 rfl rfl rfl) rfl ?_
        refine WQ_skip rfl (gdN (b := true) 51 rfl rfl rfl) rfl ?_
        refine WQ_passAct rfl (gdN (b := true) 51 rfl rfl rfl) rfl (by exact ⟨trivial, depT (by kernel_rfl)⟩) ?_
        refine WQ_skip rfl (gdN (b := true) 51 rfl rfl rfl) rfl ?_
        refine WQ_val rfl gd0 (o_pickT (v := .bool true) rfl rfl rfl) rfl ?_
        refine WQ_nil ?_
        refine nrm ?_
        refine WC_cond (t := true) rfl (fun _ => ?_) (fun hx => by rw [(rfl : true = true)] at hx; cases hx)
        refine WC_seq ?_
        refine WC_region ?_
        refine WL_val gd0 ((o_assign (v := .int .i64 1) rfl) _) rfl ?_
        refine WL_nil ?_
        refine nrm ?_
        refine WC_ret ?_
        refine rtB ?_
        refine rtT ?_
        refine rtT ?_
        refine rtB ?_
        refine rtT ?_
        refine rtE ?_
        exact gv1 rfl rfl h
      · rw [if_neg (of_decide_eq_false hb27)] at h
        refine WQ_val rfl (gdY (b := (decide (x25 < 0))) 21 rfl rfl hb27) (o_fieldAddr0 Try.underlying43 rfl Try.sizeOf3 rfl rfl rfl) rfl ?_
        obtain ⟨x28, hc29, h⟩ := h
        refine WQ_look (fun w => w.cell? p21 = some (.int .i64 x28)) rfl (gdY (b := (decide (x25 < 0))) 21 rfl rfl hb27) (fun w hc => (o_load Try.isAgg3 rfl hc)) hc29 rfl ?_
        refine WQ_val rfl (gdY (b := (decide (x25 < 0))) 21 rfl rfl hb27) (o_gtr rfl rfl) rfl ?_
        refine WQ_val rfl gd0 (o_pickF (v := .bool (decide (65535 < x28))) rfl hb27 rfl) rfl ?_
        refine WQ_val rfl gd0 (o_move (v := .bool (decide (65535 < x28))) rfl) rfl ?_
        refine bsplit (decide (65535 < x28)) (fun hb30 => ?_) (fun hb30 => ?_)
        · rw [if_pos (of_decide_eq_true hb30)] at h
          refine WQ_skip rfl (gdN (b := (decide (65535 < x28))) 26 rfl rfl hb30) rfl ?_
          refine WQ_skip rfl (gdN (b := (decide (65535 < x28))) 26 rfl rfl hb30) rfl ?_
          refine WQ_skip rfl (gdN (b := (decide (65535 < x28))) 26 rfl rfl hb30) rfl ?_
          refine WQ_skip rfl (gdU 29 rfl rfl) rfl ?_
          refine WQ_skip rfl (gdU 29 rfl rfl) rfl ?_
          refine WQ_skip rfl (gdU 29 rfl rfl) rfl ?_
          refine WQ_skip rfl (gdU 29 rfl rfl) rfl ?_
          refine WQ_skip rfl (gdU 29 rfl rfl) rfl ?_
          refine WQ_skip rfl (gdU 29 rfl rfl) rfl ?_
          refine WQ_skip rfl (gdU 29 rfl rfl) rfl ?_
          refine WQ_skip rfl (gdU 29 rfl rfl) rfl ?_
          refine WQ_skip rfl (gdU 29 rfl rfl) rfl ?_
          refine WQ_skip rfl (gdN (b := (decide (65535 < x28))) 26 rfl rfl hb30) rfl ?_
          refine WQ_val rfl gd0 (o_pickT (v := .bool true) rfl hb30 rfl) rfl ?_
          refine WQ_val rfl gd0 (o_move (v := .bool true) rfl) rfl ?_
          refine WQ_skip rfl (gdN (b := true) 41 rfl rfl rfl) rfl ?_
          refine WQ_skip rfl (gdN (b := true) 41 rfl rfl rfl) rfl ?_
          refine WQ_skip rfl (gdN (b := true) 41 rfl rfl rfl) rfl ?_
          refine WQ_val rfl gd0 (o_pickT (v := .bool true) rfl rfl rfl) rfl ?_
          refine WQ_val rfl gd0 (o_move (v := .bool true) rfl) rfl ?_
          refine WQ_skip rfl (gdN (b := true) 46 rfl rfl rfl) rfl ?_
          refine WQ_skip rfl (gdN (b := true) 46 rfl rfl rfl) rfl ?_
          refine WQ_skip rfl (gdN (b := true) 46 rfl rfl rfl) rfl ?_
          refine WQ_val rfl gd0 (o_pickT (v := .bool true) rfl rfl rfl) rfl ?_
          refine WQ_val rfl gd0 (o_move (v := .bool true) rfl) rfl ?_
          refine WQ_skip rfl (gdN (b := true) 51 rfl rfl rfl) rfl ?_
          refine WQ_skip rfl (gdN (b := true) 51 rfl rfl rfl) rfl ?_
          refine WQ_skip rfl (gdN (b := true) 51 rfl rfl rfl) rfl ?_
          refine WQ_passAct rfl (gdN (b := true) 51 rfl rfl rfl) rfl (by exact ⟨⟨trivial, depT (by kernel_rfl)⟩, depT (by kernel_rfl)⟩) ?_
          refine WQ_skip rfl (gdN (b := true) 51 rfl rfl rfl) rfl ?_
          refine WQ_val rfl gd0 (o_pickT (v := .bool true) rfl rfl rfl) rfl ?_
          refine WQ_nil ?_
          refine nrm ?_
          refine WC_cond (t := true) rfl (fun _ => ?_) (fun hx => by rw [(rfl : true = true)] at hx; cases hx)
          refine WC_seq ?_
          refine WC_region ?_
          refine WL_val gd0 ((o_assign (v := .int .i64 1) rfl) _) rfl ?_
          refine WL_nil ?_
          refine nrm ?_
          refine WC_ret ?_
          refine rtB ?_
          refine rtT ?_
          refine rtT ?_
          refine rtB ?_
          refine rtT ?_
          refine rtE ?_
          exact gv1 rfl rfl h
        · rw [if_neg (of_decide_eq_false hb30)] at h
          refine WQ_val rfl (gdY (b := (decide (65535 < x28))) 26 rfl rfl hb30) (o_move (v := .int .i64 i8) (by exact e3_7)) rfl ?_
          refine WQ_val rfl (gdY (b := (decide (65535 < x28))) 26 rfl rfl hb30) (o_gtr rfl rfl) rfl ?_
          refine WQ_val rfl (gdY (b := (decide (65535 < x28))) 26 rfl rfl hb30) (o_move (v := .bool (decide (0 < i8))) rfl) rfl ?_
          refine bsplit (decide (0 < i8)) (fun hb31 => ?_) (fun hb31 => ?_)
          · rw [if_pos (of_decide_eq_true hb31)] at h
            refine WQ_val rfl (gdY (b := (decide (0 < i8))) 29 rfl rfl hb31) (o_move (v := .slice l_a1 l_n2 l_c3) (by exact e0_6)) rfl ?_
            refine WQ_val rfl (gdY (b := (decide (0 < i8))) 29 rfl rfl hb31) (o_move (v := .int .i64 i8) (by exact e3_7)) rfl ?_
            refine WQ_val rfl (gdY (b := (decide (0 < i8))) 29 rfl rfl hb31) (o_sub rfl rfl) rfl ?_
            obtain ⟨l32, u33, h⟩ := h
            refine WQ_val rfl (gdY (b := (decide (0 < i8))) 29 rfl rfl hb31) (o_indexAddr Try.underlying22 Try.sizeOf43 (by exact (congrArg (fun z => Value.slice z l_n2 l_c3) q15)) rfl l32 u33) rfl ?_
            refine WQ_val rfl (gdY (b := (decide (0 < i8))) 29 rfl rfl hb31) (o_fieldAddr0 Try.underlying43 rfl Try.sizeOf3 rfl rfl rfl) rfl ?_
            obtain ⟨x34, hc35, h⟩ := h
            refine WQ_look (fun w => w.cell? (p14.add (((IntKind.i64.wrap (i8 - 1)).toNat) * 4)) = some (.int .i64 x34)) rfl (gdY (b := (decide (0 < i8))) 29 rfl rfl hb31) (fun w hc => (o_load Try.isAgg3 rfl hc)) hc35 rfl ?_
            refine WQ_val rfl (gdY (b := (decide (0 < i8))) 29 rfl rfl hb31) (o_fieldAddr0 Try.underlying43 rfl Try.sizeOf3 rfl rfl rfl) rfl ?_
            obtain ⟨x36, hc37, h⟩ := h
            refine WQ_look (fun w => w.cell? p21 = some (.int .i64 x36)) rfl (gdY (b := (decide (0 < i8))) 29 rfl rfl hb31) (fun w hc => (o_load Try.isAgg3 rfl hc)) hc37 rfl ?_
            refine WQ_val rfl (gdY (b := (decide (0 < i8))) 29 rfl rfl hb31) (o_geq rfl rfl) rfl ?_
            refine WQ_val rfl (gdY (b := (decide (65535 < x28))) 26 rfl rfl hb30) (o_pickT (v := .bool (decide (x36 ≤ x34))) rfl hb31 rfl) rfl ?_
            refine WQ_val rfl gd0 (o_pickF (v := .bool (decide (x36 ≤ x34))) rfl hb30 rfl) rfl ?_
            refine WQ_val rfl gd0 (o_move (v := .bool (decide (x36 ≤ x34))) rfl) rfl ?_
            refine bsplit (decide (x36 ≤ x34)) (fun hb38 => ?_) (fun hb38 => ?_)
            · rw [if_pos (of_decide_eq_true hb38)] at h
              refine WQ_skip rfl (gdN (b := (decide (x36 ≤ x34))) 41 rfl rfl hb38) rfl ?_
              refine WQ_skip rfl (gdN (b := (decide (x36 ≤ x34))) 41 rfl rfl hb38) rfl ?_
              refine WQ_skip rfl (gdN (b := (decide (x36 ≤ x34))) 41 rfl rfl hb38) rfl ?_
              refine WQ_val rfl gd0 (o_pickT (v := .bool true) rfl hb38 rfl) rfl ?_
              refine WQ_val rfl gd0 (o_move (v := .bool true) rfl) rfl ?_
              refine WQ_skip rfl (gdN (b := true) 46 rfl rfl rfl) rfl ?_
              refine WQ_skip rfl (gdN (b := true) 46 rfl rfl rfl) rfl ?_
              refine WQ_skip rfl (gdN (b := true) 46 rfl rfl rfl) rfl ?_
              refine WQ_val rfl gd0 (o_pickT (v := .bool true) rfl rfl rfl) rfl ?_
              refine WQ_val rfl gd0 (o_move (v := .bool true) rfl) rfl ?_
              refine WQ_skip rfl (gdN (b := true) 51 rfl rfl rfl) rfl ?_
              refine WQ_skip rfl (gdN (b := true) 51 rfl rfl rfl) rfl ?_
              refine WQ_skip rfl (gdN (b := true) 51 rfl rfl rfl) rfl ?_
              refine WQ_passAct rfl (gdN (b := true) 51 rfl rfl rfl) rfl (by exact ⟨⟨⟨⟨trivial, depT (by kernel_rfl)⟩, depT (by kernel_rfl)⟩, depT (by kernel_rfl)⟩, depT (by kernel_rfl)⟩) ?_
              refine WQ_skip rfl (gdN (b := true) 51 rfl rfl rfl) rfl ?_
              refine WQ_val rfl gd0 (o_pickT (v := .bool true) rfl rfl rfl) rfl ?_
              refine WQ_nil ?_
              refine nrm ?_
              refine WC_cond (t := true) rfl (fun _ => ?_) (fun hx => by rw [(rfl : true = true)] at hx; cases hx)
              refine WC_seq ?_
              refine WC_region ?_
              refine WL_val gd0 ((o_assign (v := .int .i64 1) rfl) _) rfl ?_
              refine WL_nil ?_
              refine nrm ?_
              refine WC_ret ?_
              refine rtB ?_
              refine rtT ?_
              refine rtT ?_
              refine rtB ?_
              refine rtT ?_
              refine rtE ?_
              exact gv1 rfl rfl h
            · rw [if_neg (of_decide_eq_false hb38)] at h
              refine WQ_val rfl (gdY (b := (decide (x36 ≤ x34))) 41 rfl rfl hb38) (o_fieldAddr 1 Try.underlying43 rfl Try.sizeOf3 rfl rfl rfl) rfl ?_
              obtain ⟨x39, hc40, h⟩ := h
              refine WQ_look (fun w => w.cell? (p21.add 1) = some (.int .i64 x39)) rfl (gdY (b := (decide (x36 ≤ x34))) 41 rfl rfl hb38) (fun w hc => (o_load Try.isAgg3 rfl hc)) hc40 rfl ?_
              refine WQ_val rfl (gdY (b := (decide (x36 ≤ x34))) 41 rfl rfl hb38) (o_lss rfl rfl) rfl ?_
              refine WQ_val rfl gd0 (o_pickF (v := .bool (decide (x39 < 1))) rfl hb38 rfl) rfl ?_
              refine WQ_val rfl gd0 (o_move (v := .bool (decide (x39 < 1))) rfl) rfl ?_
              refine bsplit (decide (x39 < 1)) (fun hb41 => ?_) (fun hb41 => ?_)
              · rw [if_pos (of_decide_eq_true hb41)] at h
                refine WQ_skip rfl (gdN (b := (decide (x39 < 1))) 46 rfl rfl hb41) rfl ?_
                refine WQ_skip rfl (gdN (b := (decide (x39 < 1))) 46 rfl rfl hb41) rfl ?_
                refine WQ_skip rfl (gdN (b := (decide (x39 < 1))) 46 rfl rfl hb41) rfl ?_
                refine WQ_val rfl gd0 (o_pickT (v := .bool true) rfl hb41 rfl) rfl ?_
                refine WQ_val rfl gd0 (o_move (v := .bool true) rfl) rfl ?_
                refine WQ_skip rfl (gdN (b := true) 51 rfl rfl rfl) rfl ?_
                refine WQ_skip rfl (gdN (b := true) 51 rfl rfl rfl) rfl ?_
                refine WQ_skip rfl (gdN (b := true) 51 rfl rfl rfl) rfl ?_
                refine WQ_passAct rfl (gdN (b := true) 51 rfl rfl rfl) rfl (by exact ⟨⟨⟨⟨⟨trivial, depT (by kernel_rfl)⟩, depT (by kernel_rfl)⟩, depT (by kernel_rfl)⟩, depT (by kernel_rfl)⟩, depT (by kernel_rfl)⟩) ?_
                refine WQ_skip rfl (gdN (b := true) 51 rfl rfl rfl) rfl ?_
                refine WQ_val rfl gd0 (o_pickT (v := .bool true) rfl rfl rfl) rfl ?_
                refine WQ_nil ?_
                refine nrm ?_
                refine WC_cond (t := true) rfl (fun _ => ?_) (fun hx => by rw [(rfl : true = true)] at hx; cases hx)
                refine WC_seq ?_
                refine WC_region ?_
                refine WL_val gd0 ((o_assign (v := .int .i64 1) rfl) _) rfl ?_
                refine WL_nil ?_
                refine nrm ?_
                refine WC_ret ?_
                refine rtB ?_
                refine rtT ?_
                refine rtT ?_
                refine rtB ?_
                refine rtT ?_
                refine rtE ?_
                exact gv1 rfl rfl h
              · rw [if_neg (of_decide_eq_false hb41)] at h
                refine WQ_val rfl (gdY (b := (decide (x39 < 1))) 46 rfl rfl hb41) (o_fieldAddr 1 Try.underlying43 rfl Try.sizeOf3 rfl rfl rfl) rfl ?_
                obtain ⟨x42, hc43, h⟩ := h
                refine WQ_look (fun w => w.cell? (p21.add 1) = some (.int .i64 x42)) rfl (gdY (b := (decide (x39 < 1))) 46 rfl rfl hb41) (fun w hc => (o_load Try.isAgg3 rfl hc)) hc43 rfl ?_
                refine WQ_val rfl (gdY (b := (decide (x39 < 1))) 46 rfl rfl hb41) (o_gtr rfl rfl) rfl ?_
                refine WQ_val rfl gd0 (o_pickF (v := .bool (decide (32 < x42))) rfl hb41 rfl) rfl ?_
                refine WQ_val rfl gd0 (o_move (v := .bool (decide (32 < x42))) rfl) rfl ?_
                refine bsplit (decide (32 < x42)) (fun hb44 => ?_) (fun hb44 => ?_)
                · rw [if_pos (of_decide_eq_true hb44)] at h
                  refine WQ_skip rfl (gdN (b := (decide (32 < x42))) 51 rfl rfl hb44) rfl ?_
                  refine WQ_skip rfl (gdN (b := (decide (32 < x42))) 51 rfl rfl hb44) rfl ?_
                  refine WQ_skip rfl (gdN (b := (decide (32 < x42))) 51 rfl rfl hb44) rfl ?_
                  refine WQ_passAct rfl (gdN (b := (decide (32 < x42))) 51 rfl rfl hb44) rfl (by exact ⟨⟨⟨⟨⟨⟨trivial, depT (by kernel_rfl)⟩, depT (by kernel_rfl)⟩, depT (by kernel_rfl)⟩, depT (by kernel_rfl)⟩, depT (by kernel_rfl)⟩, depT (by kernel_rfl)⟩) ?_
                  refine WQ_skip rfl (gdN (b := (decide (32 < x42))) 51 rfl rfl hb44) rfl ?_
                  refine WQ_val rfl gd0 (o_pickT (v := .bool true) rfl hb44 rfl) rfl ?_
                  refine WQ_nil ?_
                  refine nrm ?_
                  refine WC_cond (t := true) rfl (fun _ => ?_) (fun hx => by rw [(rfl : true = true)] at hx; cases hx)
                  refine WC_seq ?_
                  refine WC_region ?_
                  refine WL_val gd0 ((o_assign (v := .int .i64 1) rfl) _) rfl ?_
                  refine WL_nil ?_
                  refine nrm ?_
                  refine WC_ret ?_
                  refine rtB ?_
                  refine rtT ?_
                  refine rtT ?_
                  refine rtB ?_
                  refine rtT ?_
                  refine rtE ?_
                  exact gv1 rfl rfl h
                · rw [if_neg (of_decide_eq_false hb44)] at h
                  obtain ⟨x45, x46, x47, x48, hc49, h⟩ := h
                  refine WQ_look (fun w => Cells w p21 0 [.int .i64 x45, .int .i64 x46, .bool x47, .int .i64 x48]) rfl (gdY (b := (decide (32 < x42))) 51 rfl rfl hb44) (fun w hc => (o_loadAgg (vs := [.int .i64 x45, .int .i64 x46, .bool x47, .int .i64 x48]) Try.isAgg43 Try.sizeOf43 rfl hc)) hc49 rfl ?_
                  refine WQ_val rfl (gdY (b := (decide (32 < x42))) 51 rfl rfl hb44) (o_fieldAddr 3 Try.underlying43 rfl Try.sizeOf3 rfl rfl rfl) rfl ?_
                  obtain ⟨x50, hc51, h⟩ := h
                  refine WQ_look (fun w => w.cell? (p21.add 3) = some (.int .i64 x50)) rfl (gdY (b := (decide (32 < x42))) 51 rfl rfl hb44) (fun w hc => (o_load Try.isAgg3 rfl hc)) hc51 rfl ?_
                  refine WQ_call rfl (gdY (b := (decide (32 < x42))) 51 rfl rfl hb44) (o_call Try.call41 (argCons rfl (argCons rfl argNil)) _) rfl (h.mono ?_)
                  rintro _ w52 ⟨x53, rfl, h⟩
                  refine ⟨⟨⟨⟨⟨⟨⟨⟨⟨trivial, depT (by kernel_rfl)⟩, depT (by kernel_rfl)⟩, depT (by kernel_rfl)⟩, depT (by kernel_rfl)⟩, depT (by kernel_rfl)⟩, depT (by kernel_rfl)⟩, depT (by kernel_rfl)⟩, depT (by kernel_rfl)⟩, ?_⟩
                  refine WQ_val rfl (gdY (b := (decide (32 < x42))) 51 rfl rfl hb44) (o_not rfl) rfl ?_
                  refine WQ_val rfl gd0 (o_pickF (v := .bool (!x53)) rfl hb44 rfl) rfl ?_
                  refine WQ_nil ?_
                  refine nrm ?_
                  refine WC_cond (t := (!x53)) rfl (fun hb54 => ?_) (fun hb54 => ?_)
                  · rw [if_pos hb54] at h
                    refine WC_seq ?_
                    refine WC_region ?_
                    refine WL_val gd0 ((o_assign (v := .int .i64 1) rfl) _) rfl ?_
                    refine WL_nil ?_
                    refine nrm ?_
                    refine WC_ret ?_
                    refine rtB ?_
                    refine rtT ?_
                    refine rtT ?_
                    refine rtB ?_
                    refine rtT ?_
                    refine rtE ?_
                    exact gv1 rfl rfl h
                  · rw [if_neg (neT hb54)] at h
                    refine WC_skip ?_
                    refine nrmB ?_
                    refine nrm ?_
                    refine WC_region ?_
                    refine WL_val gd0 ((o_move (v := .int .i64 i8) (by exact e3_7)) _) rfl ?_
                    refine WL_val gd0 ((o_add rfl rfl) _) rfl ?_
                    refine WL_val gd0 ((o_assign (v := .int .i64 (IntKind.i64.wrap (i8 + 1))) rfl) _) rfl ?_
                    refine WL_nil ?_
                    refine nrm ?_
                    obtain ⟨m10, hm10, h⟩ := h
                    exact ⟨m10, hm10, _, rfl, e0_6, h⟩
          · rw [if_neg (of_decide_eq_false hb31)] at h
            refine WQ_skip rfl (gdN (b := (decide (0 < i8))) 29 rfl rfl hb31) rfl ?_
            refine WQ_skip rfl (gdN (b := (decide (0 < i8))) 29 rfl rfl hb31) rfl ?_
            refine WQ_skip rfl (gdN (b := (decide (0 < i8))) 29 rfl rfl hb31) rfl ?_
            refine WQ_skip rfl (gdN (b := (decide (0 < i8))) 29 rfl rfl hb31) rfl ?_
            refine WQ_skip rfl (gdN (b := (decide (0 < i8))) 29 rfl rfl hb31) rfl ?_
            refine WQ_skip rfl (gdN (b := (decide (0 < i8))) 29 rfl rfl hb31) rfl ?_
            refine WQ_skip rfl (gdN (b := (decide (0 < i8))) 29 rfl rfl hb31) rfl ?_
            refine WQ_skip rfl (gdN (b := (decide (0 < i8))) 29 rfl rfl hb31) rfl ?_
            refine WQ_skip rfl (gdN (b := (decide (0 < i8))) 29 rfl rfl hb31) rfl ?_
            refine WQ_val rfl (gdY (b := (decide (65535 < x28))) 26 rfl rfl hb30) (o_pickF (v := .bool false) rfl hb31 rfl) rfl ?_
            refine WQ_val rfl gd0 (o_pickF (v := .bool false) rfl hb30 rfl) rfl ?_
            refine WQ_val rfl gd0 (o_move (v := .bool false) rfl) rfl ?_
            refine WQ_val rfl (gdY (b := false) 41 rfl rfl rfl) (o_fieldAddr 1 Try.underlying43 rfl Try.sizeOf3 rfl rfl rfl) rfl ?_
            obtain ⟨x55, hc56, h⟩ := h
            refine WQ_look (fun w => w.cell? (p21.add 1) = some (.int .i64 x55)) rfl (gdY (b := false) 41 rfl rfl rfl) (fun w hc => (o_load Try.isAgg3 rfl hc)) hc56 rfl ?_
            refine WQ_val rfl (gdY (b := false) 41 rfl rfl rfl) (o_lss rfl rfl) rfl ?_
            refine WQ_val rfl gd0 (o_pickF (v := .bool (decide (x55 < 1))) rfl rfl rfl) rfl ?_
            refine WQ_val rfl gd0 (o_move (v := .bool (decide (x55 < 1))) rfl) rfl ?_
            refine bsplit (decide (x55 < 1)) (fun hb57 => ?_) (fun hb57 => ?_)
            · rw [if_pos (of_decide_eq_true hb57)] at h
              refine WQ_skip rfl (gdN (b := (decide (x55 < 1))) 46 rfl rfl hb57) rfl ?_
              refine WQ_skip rfl (gdN (b := (decide (x55 < 1))) 46 rfl rfl hb57) rfl ?_
              refine WQ_skip rfl (gdN (b := (decide (x55 < 1))) 46 rfl rfl hb57) rfl ?_
              refine WQ_val rfl gd0 (o_pickT (v := .bool true) rfl hb57 rfl) rfl ?_
              refine WQ_val rfl gd0 (o_move (v := .bool true) rfl) rfl ?_
              refine WQ_skip rfl (gdN (b := true) 51 rfl rfl rfl) rfl ?_
              refine WQ_skip rfl (gdN (b := true) 51 rfl rfl rfl) rfl ?_
              refine WQ_skip rfl (gdN (b := true) 51 rfl rfl rfl) rfl ?_
              refine WQ_passAct rfl (gdN (b := true) 51 rfl rfl rfl) rfl (by exact ⟨⟨⟨trivial, depT (by kernel_rfl)⟩, depT (by kernel_rfl)⟩, depT (by kernel_rfl)⟩) ?_
              refine WQ_skip rfl (gdN (b := true) 51 rfl rfl rfl) rfl ?_
              refine WQ_val rfl gd0 (o_pickT (v := .bool true) rfl rfl rfl) rfl ?_
              refine WQ_nil ?_
              refine nrm ?_
              refine WC_cond (t := true) rfl (fun _ => ?_) (fun hx => by rw [(rfl : true = true)] at hx; cases hx)
              refine WC_seq ?_
              refine WC_region ?_
              refine WL_val gd0 ((o_assign (v := .int .i64 1) rfl) _) rfl ?_
              refine WL_nil ?_
              refine nrm ?_
              refine WC_ret ?_
              refine rtB ?_
              refine rtT ?_
              refine rtT ?_
              refine rtB ?_
              refine rtT ?_
              refine rtE ?_
              exact gv1 rfl rfl h
            · rw [if_neg (of_decide_eq_false hb57)] at h
              refine WQ_val rfl (gdY (b := (decide (x55 < 1))) 46 rfl rfl hb57) (o_fieldAddr 1 Try.underlying43 rfl Try.sizeOf3 rfl rfl rfl) rfl ?_
              obtain ⟨x58, hc59, h⟩ := h
              refine WQ_look (fun w => w.cell? (p21.add 1) = some (.int .i64 x58)) rfl (gdY (b := (decide (x55 < 1))) 46 rfl rfl hb57) (fun w hc => (o_load Try.isAgg3 rfl hc)) hc59 rfl ?_
              refine WQ_val rfl (gdY (b := (decide (x55 < 1))) 46 rfl rfl hb57) (o_gtr rfl rfl) rfl ?_
              refine WQ_val rfl gd0 (o_pickF (v := .bool (decide (32 < x58))) rfl hb57 rfl) rfl ?_
              refine WQ_val rfl gd0 (o_move (v := .bool (decide (32 < x58))) rfl) rfl ?_
              refine bsplit (decide (32 < x58)) (fun hb60 => ?_) (fun hb60 => ?_)
              · rw [if_pos (of_decide_eq_true hb60)] at h
                refine WQ_skip rfl (gdN (b := (decide (32 < x58))) 51 rfl rfl hb60) rfl ?_
                refine WQ_skip rfl (gdN (b := (decide (32 < x58))) 51 rfl rfl hb60) rfl ?_
                refine WQ_skip rfl (gdN (b := (decide (32 < x58))) 51 rfl rfl hb60) rfl ?_
                refine WQ_passAct rfl (gdN (b := (decide (32 < x58))) 51 rfl rfl hb60) rfl (by exact ⟨⟨⟨⟨trivial, depT (by kernel_rfl)⟩, depT (by kernel_rfl)⟩, depT (by kernel_rfl)⟩, depT (by kernel_rfl)⟩) ?_
                refine WQ_skip rfl (gdN (b := (decide (32 < x58))) 51 rfl rfl hb60) rfl ?_
                refine WQ_val rfl gd0 (o_pickT (v := .bool true) rfl hb60 rfl) rfl ?_
                refine WQ_nil ?_
                refine nrm ?_
                refine WC_cond (t := true) rfl (fun _ => ?_) (fun hx => by rw [(rfl : true = true)] at hx; cases hx)
                refine WC_seq ?_
                refine WC_region ?_
                refine WL_val gd0 ((o_assign (v := .int .i64 1) rfl) _) rfl ?_
                refine WL_nil ?_
                refine nrm ?_
                refine WC_ret ?_
                refine rtB ?_
                refine rtT ?_
                refine rtT ?_
                refine rtB ?_
                refine rtT ?_
                refine rtE ?_
                exact gv1 rfl rfl h
              · rw [if_neg (of_decide_eq_false hb60)] at h
                obtain ⟨x61, x62, x63, x64, hc65, h⟩ := h
                refine WQ_look (fun w => Cells w p21 0 [.int .i64 x61, .int .i64 x62, .bool x63, .int .i64 x64]) rfl (gdY (b := (decide (32 < x58))) 51 rfl rfl hb60) (fun w hc => (o_loadAgg (vs := [.int .i64 x61, .int .i64 x62, .bool x63, .int .i64 x64]) Try.isAgg43 Try.sizeOf43 rfl hc)) hc65 rfl ?_
                refine WQ_val rfl (gdY (b := (decide (32 < x58))) 51 rfl rfl hb60) (o_fieldAddr 3 Try.underlying43 rfl Try.sizeOf3 rfl rfl rfl) rfl ?_
                obtain ⟨x66, hc67, h⟩ := h
                refine WQ_look (fun w => w.cell? (p21.add 3) = some (.int .i64 x66)) rfl (gdY (b := (decide (32 < x58))) 51 rfl rfl hb60) (fun w hc => (o_load Try.isAgg3 rfl hc)) hc67 rfl ?_
                refine WQ_call rfl (gdY (b := (decide (32 < x58))) 51 rfl rfl hb60) (o_call Try.call41 (argCons rfl (argCons rfl argNil)) _) rfl (h.mono ?_)
                rintro _ w68 ⟨x69, rfl, h⟩
                refine ⟨⟨⟨⟨⟨⟨⟨trivial, depT (by kernel_rfl)⟩, depT (by kernel_rfl)⟩, depT (by kernel_rfl)⟩, depT (by kernel_rfl)⟩, depT (by kernel_rfl)⟩, depT (by kernel_rfl)⟩, ?_⟩
                refine WQ_val rfl (gdY (b := (decide (32 < x58))) 51 rfl rfl hb60) (o_not rfl) rfl ?_
                refine WQ_val rfl gd0 (o_pickF (v := .bool (!x69)) rfl hb60 rfl) rfl ?_
                refine WQ_nil ?_
                refine nrm ?_
                refine WC_cond (t := (!x69)) rfl (fun hb70 => ?_) (fun hb70 => ?_)
                · rw [if_pos hb70] at h
                  refine WC_seq ?_
                  refine WC_region ?_
                  refine WL_val gd0 ((o_assign (v := .int .i64 1) rfl) _) rfl ?_
                  refine WL_nil ?_
                  refine nrm ?_
                  refine WC_ret ?_
                  refine rtB ?_
                  refine rtT ?_
                  refine rtT ?_
                  refine rtB ?_
                  refine rtT ?_
                  refine rtE ?_
                  exact gv1 rfl rfl h
                · rw [if_neg (neT hb70)] at h
                  refine WC_skip ?_
                  refine nrmB ?_
                  refine nrm ?_
                  refine WC_region ?_
                  refine WL_val gd0 ((o_move (v := .int .i64 i8) (by exact e3_7)) _) rfl ?_
                  refine WL_val gd0 ((o_add rfl rfl) _) rfl ?_
                  refine WL_val gd0 ((o_assign (v := .int .i64 (IntKind.i64.wrap (i8 + 1))) rfl) _) rfl ?_
                  refine WL_nil ?_
                  refine nrm ?_
                  obtain ⟨m10, hm10, h⟩ := h
                  exact ⟨m10, hm10, _, rfl, e0_6, h⟩
    · rw [if_neg (of_decide_eq_false hb11)] at h
      refine WC_exit ?_
      refine exT ?_
      refine exT ?_
      refine exB ?_
      refine nrm ?_
      refine WC_seq ?_
      refine WC_region ?_
      refine WL_val gd0 ((o_assign (v := .int .i64 0) rfl) _) rfl ?_
      refine WL_nil ?_
      refine nrm ?_
      refine WC_ret ?_
      refine rtE ?_
      exact gv1 rfl rfl h

def F31_b1 (ids_n5 : Nat) (ids_a4 : Option Addr) (l_a1 : Option Addr) (l_n2 : Nat) (l_c3 : Nat) (i12 : Int) (w13 : World) (k : Value → World → Prop) (nx13 : Int → World → Prop) : Prop :=
  if i12 < (ids_n5 : Int) then
  ∃ (p18 : Addr), ids_a4 = some p18 ∧ (0 : Int) ≤ i12 ∧ i12 < (ids_n5 : Int) ∧ ∃ (x20 : Int), w13.cell? (p18.add i12.toNat) = some (.int .i64 x20) ∧ Does Try.prog 32 #[.slice l_a1 l_n2 l_c3, .int .i64 x20] w13 (fun v w22 => ∃ (x23 : Int), v = .int .i64 x23 ∧ if x23 < 0 then
    k (.int .i64 8) w22
  else
    nx13 (IntKind.i64.wrap (i12 + 1)) w22)
else
  k (.int .i64 0) w13
/-- spacecraft spacecraftref33.known -/
def F31 (l_a1 : Option Addr) (l_n2 : Nat) (l_c3 : Nat) (ids_a4 : Option Addr) (ids_n5 : Nat) (ids_c6 : Nat) (w7 : World) (k : Value → World → Prop) : Prop :=
  if 256 < (ids_n5 : Int) then
  k (.int .i64 6) w7
else
  LoopP (fun (s : Int) w' nx' => F31_b1 ids_n5 ids_a4 l_a1 l_n2 l_c3 s w' k (fun x0 w => nx' x0 w)) 0 w7
set_option maxRecDepth 100000 in
set_option maxHeartbeats 2000000 in
theorem w31 (l_a1 : Option Addr) (l_n2 : Nat) (l_c3 : Nat) (ids_a4 : Option Addr) (ids_n5 : Nat) (ids_c6 : Nat) (w7 : World) (k : Value → World → Prop) (h : F31 l_a1 l_n2 l_c3 ids_a4 ids_n5 ids_c6 w7 k) : Does Try.prog 31 #[.slice l_a1 l_n2 l_c3, .slice ids_a4 ids_n5 ids_c6] w7 k := by
  refine enter 22 Try.func31 rfl rfl rfl ?_
  intro ρ hρ
  have e0 := hρ 0 _ rfl
  have e1 := hρ 1 _ rfl
  unfold F31 at h
  refine WC_seq ?_
  refine WC_region ?_
  refine WL_val gd0 ((o_assign (v := .int .i64 0) rfl) _) rfl ?_
  refine WL_nil ?_
  refine nrm ?_
  refine WC_seq ?_
  refine WC_seq ?_
  refine WC_region ?_
  refine WL_val gd0 ((o_move (v := .slice ids_a4 ids_n5 ids_c6) (by exact e1)) _) rfl ?_
  refine WL_val gd0 ((o_len Try.underlying23 rfl) _) rfl ?_
  refine WL_val gd0 ((o_gtr rfl rfl) _) rfl ?_
  refine WL_nil ?_
  refine nrm ?_
  refine WC_cond (t := (decide (256 < (ids_n5 : Int)))) rfl (fun hb8 => ?_) (fun hb8 => ?_)
  · rw [if_pos (of_decide_eq_true hb8)] at h
    refine WC_seq ?_
    refine WC_region ?_
    refine WL_val gd0 ((o_assign (v := .int .i64 6) rfl) _) rfl ?_
    refine WL_nil ?_
    refine nrm ?_
    refine WC_ret ?_
    refine rtT ?_
    refine rtE ?_
    exact gv1 rfl rfl h
  · rw [if_neg (of_decide_eq_false hb8)] at h
    refine WC_skip ?_
    refine nrm ?_
    refine WC_seq ?_
    refine WC_seq ?_
    refine WC_region ?_
    refine WL_val gd0 ((o_assign (v := .int .i64 0) rfl) _) rfl ?_
    refine WL_nil ?_
    refine nrm ?_
    refine WC_block ?_
    obtain ⟨J13, ⟨n13, h0⟩, hr13⟩ := h
    refine WC_loop (fun n ρ w' => ∃ (i12 : Int), ρ 5 = .int .i64 i12 ∧ ρ 0 = .slice l_a1 l_n2 l_c3 ∧ ρ 1 = .slice ids_a4 ids_n5 ids_c6 ∧ J13 n i12 w') ⟨n13, _, rfl, e0, e1, h0⟩ ?_
    rintro n13 ρ w13 ⟨i12, e5_11, e0_9, e1_10, h⟩
    have h : F31_b1 ids_n5 ids_a4 l_a1 l_n2 l_c3 i12 w13 k (fun x0 w => ∃ m, m < n13 ∧ J13 m x0 w) := hr13 n13 i12 w13 h
    unfold F31_b1 at h
    refine WC_seq ?_
    refine WC_seq ?_
    refine WC_region ?_
    refine WL_val gd0 ((o_move (v := .int .i64 i12) (by exact e5_11)) _) rfl ?_
    refine WL_val gd0 ((o_move (v := .slice ids_a4 ids_n5 ids_c6) (by exact e1_10)) _) rfl ?_
    refine WL_val gd0 ((o_len Try.underlying23 rfl) _) rfl ?_
    refine WL_val gd0 ((o_lss rfl rfl) _) rfl ?_
    refine WL_nil ?_
    refine nrm ?_
    refine WC_cond (t := (decide (i12 < (ids_n5 : Int)))) rfl (fun hb15 => ?_) (fun hb15 => ?_)
    · rw [if_pos (of_decide_eq_true hb15)] at h
      refine WC_skip ?_
      refine nrm ?_
      refine WC_seq ?_
      refine WC_block ?_
      refine WC_seq ?_
      refine WC_region ?_
      refine WL_val gd0 ((o_move (v := .slice l_a1 l_n2 l_c3) (by exact e0_9)) _) rfl ?_
      refine WL_val gd0 ((o_move (v := .slice ids_a4 ids_n5 ids_c6) (by exact e1_10)) _) rfl ?_
      refine WL_val gd0 ((o_move (v := .int .i64 i12) (by exact e5_11)) _) rfl ?_
      obtain ⟨p18, q19, h⟩ := h
      obtain ⟨l16, u17, h⟩ := h
      refine WL_val gd0 ((o_indexAddr1 Try.underlying23 Try.sizeOf3 (by exact (congrArg (fun z => Value.slice z ids_n5 ids_c6) q19)) rfl l16 u17) _) rfl ?_
      obtain ⟨x20, hc21, h⟩ := h
      refine WL_val gd0 (o_load Try.isAgg3 rfl hc21) rfl ?_
      refine WL_call gd0 (o_call Try.call32 (argCons rfl (argCons rfl argNil)) _) rfl (h.mono ?_)
      rintro _ w22 ⟨x23, rfl, h⟩
      refine WL_val gd0 ((o_lss rfl rfl) _) rfl ?_
      refine WL_nil ?_
      refine nrm ?_
      refine WC_cond (t := (decide (x23 < 0))) rfl (fun hb24 => ?_) (fun hb24 => ?_)
      · rw [if_pos (of_decide_eq_true hb24)] at h
        refine WC_seq ?_
        refine WC_region ?_
        refine WL_val gd0 ((o_assign (v := .int .i64 8) rfl) _) rfl ?_
        refine WL_nil ?_
        refine nrm ?_
        refine WC_ret ?_
        refine rtB ?_
        refine rtT ?_
        refine rtT ?_
        refine rtB ?_
        refine rtT ?_
        refine rtE ?_
        exact gv1 rfl rfl h
      · rw [if_neg (of_decide_eq_false hb24)] at h
        refine WC_skip ?_
        refine nrmB ?_
        refine nrm ?_
        refine WC_region ?_
        refine WL_val gd0 ((o_move (v := .int .i64 i12) (by exact e5_11)) _) rfl ?_
        refine WL_val gd0 ((o_add rfl rfl) _) rfl ?_
        refine WL_val gd0 ((o_assign (v := .int .i64 (IntKind.i64.wrap (i12 + 1))) rfl) _) rfl ?_
        refine WL_nil ?_
        refine nrm ?_
        obtain ⟨m14, hm14, h⟩ := h
        exact ⟨m14, hm14, _, rfl, e0_9, e1_10, h⟩
    · rw [if_neg (of_decide_eq_false hb15)] at h
      refine WC_exit ?_
      refine exT ?_
      refine exT ?_
      refine exB ?_
      refine nrm ?_
      refine WC_seq ?_
      refine WC_region ?_
      refine WL_val gd0 ((o_assign (v := .int .i64 0) rfl) _) rfl ?_
      refine WL_nil ?_
      refine nrm ?_
      refine WC_ret ?_
      refine rtE ?_
      exact gv1 rfl rfl h

def F32_b1 (l_n2 : Nat) (l_a1 : Option Addr) (id4 : Int) (i9 : Int) (w10 : World) (k : Value → World → Prop) (nx10 : Int → World → Prop) : Prop :=
  if i9 < (l_n2 : Int) then
  ∃ (p15 : Addr), l_a1 = some p15 ∧ (0 : Int) ≤ i9 ∧ i9 < (l_n2 : Int) ∧ ∃ (x17 : Int), w10.cell? (p15.add (i9.toNat * 4)) = some (.int .i64 x17) ∧ if x17 = id4 then
    k (.int .i64 i9) w10
  else
    nx10 (IntKind.i64.wrap (i9 + 1)) w10
else
  k (.int .i64 (-1)) w10
/-- spacecraft spacecraftref33.find -/
def F32 (l_a1 : Option Addr) (l_n2 : Nat) (l_c3 : Nat) (id4 : Int) (w5 : World) (k : Value → World → Prop) : Prop :=
  LoopP (fun (s : Int) w' nx' => F32_b1 l_n2 l_a1 id4 s w' k (fun x0 w => nx' x0 w)) 0 w5
set_option maxRecDepth 100000 in
set_option maxHeartbeats 2000000 in
theorem w32 (l_a1 : Option Addr) (l_n2 : Nat) (l_c3 : Nat) (id4 : Int) (w5 : World) (k : Value → World → Prop) (h : F32 l_a1 l_n2 l_c3 id4 w5 k) : Does Try.prog 32 #[.slice l_a1 l_n2 l_c3, .int .i64 id4] w5 k := by
  refine enter 20 Try.func32 rfl rfl rfl ?_
  intro ρ hρ
  have e0 := hρ 0 _ rfl
  have e1 := hρ 1 _ rfl
  unfold F32 at h
  refine WC_seq ?_
  refine WC_region ?_
  refine WL_val gd0 ((o_assign (v := .int .i64 0) rfl) _) rfl ?_
  refine WL_nil ?_
  refine nrm ?_
  refine WC_seq ?_
  refine WC_seq ?_
  refine WC_region ?_
  refine WL_val gd0 ((o_assign (v := .int .i64 0) rfl) _) rfl ?_
  refine WL_nil ?_
  refine nrm ?_
  refine WC_block ?_
  obtain ⟨J10, ⟨n10, h0⟩, hr10⟩ := h
  refine WC_loop (fun n ρ w' => ∃ (i9 : Int), ρ 5 = .int .i64 i9 ∧ ρ 0 = .slice l_a1 l_n2 l_c3 ∧ ρ 1 = .int .i64 id4 ∧ J10 n i9 w') ⟨n10, _, rfl, e0, e1, h0⟩ ?_
  rintro n10 ρ w10 ⟨i9, e5_8, e0_6, e1_7, h⟩
  have h : F32_b1 l_n2 l_a1 id4 i9 w10 k (fun x0 w => ∃ m, m < n10 ∧ J10 m x0 w) := hr10 n10 i9 w10 h
  unfold F32_b1 at h
  refine WC_seq ?_
  refine WC_seq ?_
  refine WC_region ?_
  refine WL_val gd0 ((o_move (v := .int .i64 i9) (by exact e5_8)) _) rfl ?_
  refine WL_val gd0 ((o_move (v := .slice l_a1 l_n2 l_c3) (by exact e0_6)) _) rfl ?_
  refine WL_val gd0 ((o_len Try.underlying22 rfl) _) rfl ?_
  refine WL_val gd0 ((o_lss rfl rfl) _) rfl ?_
  refine WL_nil ?_
  refine nrm ?_
  refine WC_cond (t := (decide (i9 < (l_n2 : Int)))) rfl (fun hb12 => ?_) (fun hb12 => ?_)
  · rw [if_pos (of_decide_eq_true hb12)] at h
    refine WC_skip ?_
    refine nrm ?_
    refine WC_seq ?_
    refine WC_block ?_
    refine WC_seq ?_
    refine WC_region ?_
    refine WL_val gd0 ((o_move (v := .slice l_a1 l_n2 l_c3) (by exact e0_6)) _) rfl ?_
    refine WL_val gd0 ((o_move (v := .int .i64 i9) (by exact e5_8)) _) rfl ?_
    obtain ⟨p15, q16, h⟩ := h
    obtain ⟨l13, u14, h⟩ := h
    refine WL_val gd0 ((o_indexAddr Try.underlying22 Try.sizeOf43 (by exact (congrArg (fun z => Value.slice z l_n2 l_c3) q16)) rfl l13 u14) _) rfl ?_
    refine WL_val gd0 ((o_fieldAddr0 Try.underlying43 rfl Try.sizeOf3 rfl rfl rfl) _) rfl ?_
    obtain ⟨x17, hc18, h⟩ := h
    refine WL_val gd0 (o_load Try.isAgg3 rfl hc18) rfl ?_
    refine WL_val gd0 ((o_move (v := .int .i64 id4) (by exact e1_7)) _) rfl ?_
    refine WL_val gd0 ((o_eql rfl rfl) _) rfl ?_
    refine WL_nil ?_
    refine nrm ?_
    refine WC_cond (t := (decide (x17 = id4))) rfl (fun hb19 => ?_) (fun hb19 => ?_)
    · rw [if_pos (of_decide_eq_true hb19)] at h
      refine WC_seq ?_
      refine WC_region ?_
      refine WL_val gd0 ((o_move (v := .int .i64 i9) (by exact e5_8)) _) rfl ?_
      refine WL_val gd0 ((o_assign (v := .int .i64 i9) rfl) _) rfl ?_
      refine WL_nil ?_
      refine nrm ?_
      refine WC_ret ?_
      refine rtB ?_
      refine rtT ?_
      refine rtT ?_
      refine rtB ?_
      refine rtT ?_
      refine rtE ?_
      exact gv1 rfl rfl h
    · rw [if_neg (of_decide_eq_false hb19)] at h
      refine WC_skip ?_
      refine nrmB ?_
      refine nrm ?_
      refine WC_region ?_
      refine WL_val gd0 ((o_move (v := .int .i64 i9) (by exact e5_8)) _) rfl ?_
      refine WL_val gd0 ((o_add rfl rfl) _) rfl ?_
      refine WL_val gd0 ((o_assign (v := .int .i64 (IntKind.i64.wrap (i9 + 1))) rfl) _) rfl ?_
      refine WL_nil ?_
      refine nrm ?_
      obtain ⟨m11, hm11, h⟩ := h
      exact ⟨m11, hm11, _, rfl, e0_6, e1_7, h⟩
  · rw [if_neg (of_decide_eq_false hb12)] at h
    refine WC_exit ?_
    refine exT ?_
    refine exT ?_
    refine exB ?_
    refine nrm ?_
    refine WC_seq ?_
    refine WC_region ?_
    refine WL_val gd0 ((o_assign (v := .int .i64 (-1)) rfl) _) rfl ?_
    refine WL_nil ?_
    refine nrm ?_
    refine WC_ret ?_
    refine rtE ?_
    exact gv1 rfl rfl h

def F33_b1 (n1 : Int) (p5 : Int) (i7 : Int) (w8 : World) (nx8 : Int → Int → World → Prop) (k : Value → World → Prop) : Prop :=
  if i7 < n1 then
  nx8 (IntKind.i64.wrap (2 * p5)) (IntKind.i64.wrap (i7 + 1)) w8
else
  k (.int .i64 p5) w8
/-- spacecraft spacecraftref33.power -/
def F33 (n1 : Int) (w2 : World) (k : Value → World → Prop) : Prop :=
  LoopP (fun (s : Int × Int) w' nx' => F33_b1 n1 (s.1) (s.2) w' (fun x0 x1 w => nx' (x0, x1) w) k) (1, 0) w2
set_option maxRecDepth 100000 in
set_option maxHeartbeats 2000000 in
theorem w33 (n1 : Int) (w2 : World) (k : Value → World → Prop) (h : F33 n1 w2 k) : Does Try.prog 33 #[.int .i64 n1] w2 k := by
  refine enter 13 Try.func33 rfl rfl rfl ?_
  intro ρ hρ
  have e0 := hρ 0 _ rfl
  unfold F33 at h
  refine WC_seq ?_
  refine WC_region ?_
  refine WL_val gd0 ((o_assign (v := .int .i64 0) rfl) _) rfl ?_
  refine WL_nil ?_
  refine nrm ?_
  refine WC_seq ?_
  refine WC_region ?_
  refine WL_val gd0 ((o_assign (v := .int .i64 1) rfl) _) rfl ?_
  refine WL_nil ?_
  refine nrm ?_
  refine WC_seq ?_
  refine WC_seq ?_
  refine WC_region ?_
  refine WL_val gd0 ((o_assign (v := .int .i64 0) rfl) _) rfl ?_
  refine WL_nil ?_
  refine nrm ?_
  refine WC_block ?_
  obtain ⟨J8, ⟨n8, h0⟩, hr8⟩ := h
  refine WC_loop (fun n ρ w' => ∃ (p5 i7 : Int), ρ 3 = .int .i64 p5 ∧ ρ 4 = .int .i64 i7 ∧ ρ 0 = .int .i64 n1 ∧ J8 n (p5, i7) w') ⟨n8, _, _, rfl, rfl, e0, h0⟩ ?_
  rintro n8 ρ w8 ⟨p5, i7, e3_4, e4_6, e0_3, h⟩
  have h : F33_b1 n1 p5 i7 w8 (fun x0 x1 w => ∃ m, m < n8 ∧ J8 m (x0, x1) w) k := hr8 n8 (p5, i7) w8 h
  unfold F33_b1 at h
  refine WC_seq ?_
  refine WC_seq ?_
  refine WC_region ?_
  refine WL_val gd0 ((o_move (v := .int .i64 i7) (by exact e4_6)) _) rfl ?_
  refine WL_val gd0 ((o_move (v := .int .i64 n1) (by exact e0_3)) _) rfl ?_
  refine WL_val gd0 ((o_lss rfl rfl) _) rfl ?_
  refine WL_nil ?_
  refine nrm ?_
  refine WC_cond (t := (decide (i7 < n1))) rfl (fun hb10 => ?_) (fun hb10 => ?_)
  · rw [if_pos (of_decide_eq_true hb10)] at h
    refine WC_skip ?_
    refine nrm ?_
    refine WC_seq ?_
    refine WC_block ?_
    refine WC_region ?_
    refine WL_val gd0 ((o_move (v := .int .i64 p5) (by exact e3_4)) _) rfl ?_
    refine WL_val gd0 ((o_mul rfl rfl) _) rfl ?_
    refine WL_val gd0 ((o_assign (v := .int .i64 (IntKind.i64.wrap (2 * p5))) rfl) _) rfl ?_
    refine WL_nil ?_
    refine nrmB ?_
    refine nrm ?_
    refine WC_region ?_
    refine WL_val gd0 ((o_move (v := .int .i64 i7) (by exact e4_6)) _) rfl ?_
    refine WL_val gd0 ((o_add rfl rfl) _) rfl ?_
    refine WL_val gd0 ((o_assign (v := .int .i64 (IntKind.i64.wrap (i7 + 1))) rfl) _) rfl ?_
    refine WL_nil ?_
    refine nrm ?_
    obtain ⟨m9, hm9, h⟩ := h
    exact ⟨m9, hm9, _, _, rfl, rfl, e0_3, h⟩
  · rw [if_neg (of_decide_eq_false hb10)] at h
    refine WC_exit ?_
    refine exT ?_
    refine exT ?_
    refine exB ?_
    refine nrm ?_
    refine WC_seq ?_
    refine WC_region ?_
    refine WL_val gd0 ((o_move (v := .int .i64 p5) (by exact e3_4)) _) rfl ?_
    refine WL_val gd0 ((o_assign (v := .int .i64 p5) rfl) _) rfl ?_
    refine WL_nil ?_
    refine nrm ?_
    refine WC_ret ?_
    refine rtE ?_
    exact gv1 rfl rfl h

/-- spacecraft params.inRange -/
def F34 (d1 : Int) (d2 : Int) (d3 : Bool) (d4 : Int) (v5 : Int) (w6 : World) (k : Value → World → Prop) : Prop :=
  New w6 43 [.int .i64 d1, .int .i64 d2, .bool d3, .int .i64 d4] (fun p7 w8 => ∃ (x9 : Bool), w8.cell? (p7.add 2) = some (.bool x9) ∧ if x9 = true then
  ∃ (x12 : Int), w8.cell? (p7.add 1) = some (.int .i64 x12) ∧ (0 : Int) ≤ IntKind.i64.wrap (x12 - 1) ∧ if (IntKind.i64.wrap (0 - (shl .i64 1 (IntKind.i64.wrap (x12 - 1))))) ≤ v5 then
    k (.bool (decide (v5 < (shl .i64 1 (IntKind.i64.wrap (x12 - 1)))))) w8
  else
    k (.bool false) w8
else
  if 0 ≤ v5 then
    ∃ (x17 : Int), w8.cell? (p7.add 1) = some (.int .i64 x17) ∧ (0 : Int) ≤ x17 ∧ k (.bool (decide (v5 < (shl .i64 1 x17)))) w8
  else
    k (.bool false) w8)
set_option maxRecDepth 100000 in
set_option maxHeartbeats 2000000 in
theorem w34 (d1 : Int) (d2 : Int) (d3 : Bool) (d4 : Int) (v5 : Int) (w6 : World) (k : Value → World → Prop) (h : F34 d1 d2 d3 d4 v5 w6 k) : Does Try.prog 34 #[.agg #[.int .i64 d1, .int .i64 d2, .bool d3, .int .i64 d4], .int .i64 v5] w6 k := by
  refine enter 30 Try.func34 rfl rfl rfl ?_
  intro ρ hρ
  have e0 := hρ 0 _ rfl
  have e1 := hρ 1 _ rfl
  unfold F34 at h
  refine WC_seq ?_
  refine WC_region ?_
  have h := New.out h
  refine WL_val gd0 (o_box (v := .agg #[.int .i64 d1, .int .i64 d2, .bool d3, .int .i64 d4]) (cs := [.int .i64 d1, .int .i64 d2, .bool d3, .int .i64 d4]) (by exact e0) rfl) rfl ?_
  generalize hp7 : fresh w6 = p7 at h ⊢
  generalize hw8 : push w6 43 [.int .i64 d1, .int .i64 d2, .bool d3, .int .i64 d4] = w8 at h ⊢
  try dsimp only at h
  refine WL_val gd0 ((o_assign (v := .bool false) rfl) _) rfl ?_
  refine WL_nil ?_
  refine nrm ?_
  refine WC_seq ?_
  refine WC_seq ?_
  refine WC_region ?_
  refine WL_val gd0 ((o_fieldAddr 2 Try.underlying43 rfl Try.sizeOf4 rfl rfl rfl) _) rfl ?_
  obtain ⟨x9, hc10, h⟩ := h
  refine WL_val gd0 (o_load Try.isAgg4 rfl hc10) rfl ?_
  refine WL_nil ?_
  refine nrm ?_
  refine WC_cond (t := x9) rfl (fun hb11 => ?_) (fun hb11 => ?_)
  · rw [if_pos hb11] at h
    refine WC_seq ?_
    refine WC_region ?_
    refine WL_val gd0 ((o_fieldAddr 1 Try.underlying43 rfl Try.sizeOf3 rfl rfl rfl) _) rfl ?_
    obtain ⟨x12, hc13, h⟩ := h
    refine WL_val gd0 (o_load Try.isAgg3 rfl hc13) rfl ?_
    refine WL_val gd0 ((o_sub rfl rfl) _) rfl ?_
    obtain ⟨c14, h⟩ := h
    refine WL_val gd0 ((o_shl rfl rfl c14) _) rfl ?_
    refine WL_val gd0 ((o_assign (v := .int .i64 (shl .i64 1 (IntKind.i64.wrap (x12 - 1)))) rfl) _) rfl ?_
    refine WL_nil ?_
    refine nrm ?_
    refine WC_seq ?_
    refine WC_region ?_
    refine WL_val gd0 ((o_move (v := .int .i64 v5) (by exact e1)) _) rfl ?_
    refine WL_val gd0 ((o_move (v := .int .i64 (shl .i64 1 (IntKind.i64.wrap (x12 - 1)))) rfl) _) rfl ?_
    refine WL_val gd0 ((o_neg rfl) _) rfl ?_
    refine WL_val gd0 ((o_geq rfl rfl) _) rfl ?_
    refine WL_val gd0 ((o_move (v := .bool (decide ((IntKind.i64.wrap (0 - (shl .i64 1 (IntKind.i64.wrap (x12 - 1))))) ≤ v5))) rfl) _) rfl ?_
    refine bsplit (decide ((IntKind.i64.wrap (0 - (shl .i64 1 (IntKind.i64.wrap (x12 - 1))))) ≤ v5)) (fun hb15 => ?_) (fun hb15 => ?_)
    · rw [if_pos (of_decide_eq_true hb15)] at h
      refine WL_val (gdY (b := (decide ((IntKind.i64.wrap (0 - (shl .i64 1 (IntKind.i64.wrap (x12 - 1))))) ≤ v5))) 16 rfl rfl hb15) ((o_move (v := .int .i64 v5) (by exact e1)) _) rfl ?_
      refine WL_val (gdY (b := (decide ((IntKind.i64.wrap (0 - (shl .i64 1 (IntKind.i64.wrap (x12 - 1))))) ≤ v5))) 16 rfl rfl hb15) ((o_move (v := .int .i64 (shl .i64 1 (IntKind.i64.wrap (x12 - 1)))) rfl) _) rfl ?_
      refine WL_val (gdY (b := (decide ((IntKind.i64.wrap (0 - (shl .i64 1 (IntKind.i64.wrap (x12 - 1))))) ≤ v5))) 16 rfl rfl hb15) ((o_lss rfl rfl) _) rfl ?_
      refine WL_val gd0 ((o_pickT (v := .bool (decide (v5 < (shl .i64 1 (IntKind.i64.wrap (x12 - 1)))))) rfl hb15 rfl) _) rfl ?_
      refine WL_val gd0 ((o_assign (v := .bool (decide (v5 < (shl .i64 1 (IntKind.i64.wrap (x12 - 1)))))) rfl) _) rfl ?_
      refine WL_nil ?_
      refine nrm ?_
      refine WC_ret ?_
      refine rtT ?_
      refine rtE ?_
      exact gv1 rfl rfl h
    · rw [if_neg (of_decide_eq_false hb15)] at h
      refine WL_skip (gdN (b := (decide ((IntKind.i64.wrap (0 - (shl .i64 1 (IntKind.i64.wrap (x12 - 1))))) ≤ v5))) 16 rfl rfl hb15) rfl ?_
      refine WL_skip (gdN (b := (decide ((IntKind.i64.wrap (0 - (shl .i64 1 (IntKind.i64.wrap (x12 - 1))))) ≤ v5))) 16 rfl rfl hb15) rfl ?_
      refine WL_skip (gdN (b := (decide ((IntKind.i64.wrap (0 - (shl .i64 1 (IntKind.i64.wrap (x12 - 1))))) ≤ v5))) 16 rfl rfl hb15) rfl ?_
      refine WL_val gd0 ((o_pickF (v := .bool false) rfl hb15 rfl) _) rfl ?_
      refine WL_val gd0 ((o_assign (v := .bool false) rfl) _) rfl ?_
      refine WL_nil ?_
      refine nrm ?_
      refine WC_ret ?_
      refine rtT ?_
      refine rtE ?_
      exact gv1 rfl rfl h
  · rw [if_neg (neT hb11)] at h
    refine WC_skip ?_
    refine nrm ?_
    refine WC_seq ?_
    refine WC_region ?_
    refine WL_val gd0 ((o_move (v := .int .i64 v5) (by exact e1)) _) rfl ?_
    refine WL_val gd0 ((o_geq rfl rfl) _) rfl ?_
    refine WL_val gd0 ((o_move (v := .bool (decide (0 ≤ v5))) rfl) _) rfl ?_
    refine bsplit (decide (0 ≤ v5)) (fun hb16 => ?_) (fun hb16 => ?_)
    · rw [if_pos (of_decide_eq_true hb16)] at h
      refine WL_val (gdY (b := (decide (0 ≤ v5))) 23 rfl rfl hb16) ((o_move (v := .int .i64 v5) (by exact e1)) _) rfl ?_
      refine WL_val (gdY (b := (decide (0 ≤ v5))) 23 rfl rfl hb16) ((o_fieldAddr 1 Try.underlying43 rfl Try.sizeOf3 rfl rfl rfl) _) rfl ?_
      obtain ⟨x17, hc18, h⟩ := h
      refine WL_val (gdY (b := (decide (0 ≤ v5))) 23 rfl rfl hb16) (o_load Try.isAgg3 rfl hc18) rfl ?_
      obtain ⟨c19, h⟩ := h
      refine WL_val (gdY (b := (decide (0 ≤ v5))) 23 rfl rfl hb16) ((o_shl rfl rfl c19) _) rfl ?_
      refine WL_val (gdY (b := (decide (0 ≤ v5))) 23 rfl rfl hb16) ((o_lss rfl rfl) _) rfl ?_
      refine WL_val gd0 ((o_pickT (v := .bool (decide (v5 < (shl .i64 1 x17)))) rfl hb16 rfl) _) rfl ?_
      refine WL_val gd0 ((o_assign (v := .bool (decide (v5 < (shl .i64 1 x17)))) rfl) _) rfl ?_
      refine WL_nil ?_
      refine nrm ?_
      refine WC_ret ?_
      refine rtE ?_
      exact gv1 rfl rfl h
    · rw [if_neg (of_decide_eq_false hb16)] at h
      refine WL_skip (gdN (b := (decide (0 ≤ v5))) 23 rfl rfl hb16) rfl ?_
      refine WL_skip (gdN (b := (decide (0 ≤ v5))) 23 rfl rfl hb16) rfl ?_
      refine WL_skip (gdN (b := (decide (0 ≤ v5))) 23 rfl rfl hb16) rfl ?_
      refine WL_skip (gdN (b := (decide (0 ≤ v5))) 23 rfl rfl hb16) rfl ?_
      refine WL_skip (gdN (b := (decide (0 ≤ v5))) 23 rfl rfl hb16) rfl ?_
      refine WL_val gd0 ((o_pickF (v := .bool false) rfl hb16 rfl) _) rfl ?_
      refine WL_val gd0 ((o_assign (v := .bool false) rfl) _) rfl ?_
      refine WL_nil ?_
      refine nrm ?_
      refine WC_ret ?_
      refine rtE ?_
      exact gv1 rfl rfl h


end Go.Proofs.Ytcdnljibefpchaa
