/-
  The forms of the functions, and their walks: written by a program of this claim (gen.py) off the elaborated translation.
-/
import Derived.Test.YtjjhghcaecodpaaProg
import Derived.Test.YtjjhghcaecodpaaBase
import Derived.KernelRfl
namespace Go.Proofs.Ytjjhghcaecodpaa
open Go Go.Sh Go.Proofs
set_option linter.unusedVariables false
theorem Try.mixed : Try.prog.follows .mixedOrders = true := by kernel_rfl
/-- spacecraft spacecraftlaw22.MuxMakes -/
def F3 (l_a1 : Option Addr) (l_n2 : Nat) (l_c3 : Nat) (w4 : World) (k : Value → World → Prop) : Prop :=
  if 30 < (l_n2 : Int) then
  Does Try.prog 7 #[] w4 (fun v w6 => ∃ (t7 : Bool), v = .bool t7 ∧ k (.bool t7) w6)
else
  Does Try.prog 8 #[.slice l_a1 l_n2 l_c3] w4 (fun v w8 => ∃ (r9 : Option Addr) (r10 : Int), v = .tuple #[.pointer r9, .int .i64 r10] ∧ Does Try.prog 9 #[.slice l_a1 l_n2 l_c3] w8 (fun v w11 => ∃ (r_a12 : Option Addr) (r_n13 r_c14 : Nat) (r_a15 : Option Addr) (r_n16 r_c17 : Nat) (r_a18 : Option Addr) (r_n19 r_c20 : Nat) (r21 : Int), v = .tuple #[.agg #[.slice r_a12 r_n13 r_c14, .slice r_a15 r_n16 r_c17, .slice r_a18 r_n19 r_c20], .int .i64 r21] ∧ New w11 30 [.slice none 0 0, .slice none 0 0, .slice none 0 0] (fun p22 w23 => PutAll w23 p22 [.slice r_a12 r_n13 r_c14, .slice r_a15 r_n16 r_c17, .slice r_a18 r_n19 r_c20] (fun w24 => if r10 = r21 then
    if (((r9).isNone) == (decide (r21 ≠ 0))) = true then
      Does Try.prog 7 #[] w24 (fun v w28 => ∃ (x29 : Bool), v = .bool x29 ∧ k (.bool x29) w28)
    else
      k (.bool false) w24
  else
    k (.bool false) w24))))
set_option maxRecDepth 100000 in
set_option maxHeartbeats 2000000 in
theorem w3 (l_a1 : Option Addr) (l_n2 : Nat) (l_c3 : Nat) (w4 : World) (k : Value → World → Prop) (h : F3 l_a1 l_n2 l_c3 w4 k) : Does Try.prog 3 #[.slice l_a1 l_n2 l_c3] w4 k := by
  refine enter 34 Try.func3 rfl rfl rfl ?_
  intro ρ hρ
  have e0 := hρ 0 _ rfl
  unfold F3 at h
  refine WC_seq ?_
  refine WC_region ?_
  refine WL_val gd0 ((o_assign (v := .bool false) rfl) _) rfl ?_
  refine WL_nil ?_
  refine nrm ?_
  refine WC_seq ?_
  refine WC_seq ?_
  refine WC_region ?_
  refine WL_val gd0 ((o_move (v := .slice l_a1 l_n2 l_c3) (by exact e0)) _) rfl ?_
  refine WL_val gd0 ((o_len Try.underlying22 rfl) _) rfl ?_
  refine WL_val gd0 ((o_gtr rfl rfl) _) rfl ?_
  refine WL_nil ?_
  refine nrm ?_
  refine WC_cond (t := (decide (30 < (l_n2 : Int)))) rfl (fun hb5 => ?_) (fun hb5 => ?_)
  · rw [if_pos (of_decide_eq_true hb5)] at h
    refine WC_seq ?_
    refine WC_region ?_
    refine WL_call gd0 (o_call Try.call7 argNil _) rfl (h.mono ?_)
    rintro _ w6 ⟨t7, rfl, h⟩
    refine WL_val gd0 ((o_assign (v := .bool t7) rfl) _) rfl ?_
    refine WL_nil ?_
    refine nrm ?_
    refine WC_ret ?_
    refine rtT ?_
    refine rtE ?_
    exact gv1 rfl rfl h
  · rw [if_neg (of_decide_eq_false hb5)] at h
    refine WC_skip ?_
    refine nrm ?_
    refine WC_seq ?_
    refine WC_region ?_
    refine WL_val gd0 ((o_move (v := .slice l_a1 l_n2 l_c3) (by exact e0)) _) rfl ?_
    refine WL_call gd0 (o_call Try.call8 (argCons rfl argNil) _) rfl (h.mono ?_)
    rintro _ w8 ⟨r9, r10, rfl, h⟩
    refine WL_val gd0 ((o_move (v := .tuple #[.pointer r9, .int .i64 r10]) rfl) _) rfl ?_
    refine WL_val gd0 ((o_extract (vs := [.pointer r9, .int .i64 r10]) (r := .pointer r9) rfl rfl) _) rfl ?_
    refine WL_val gd0 ((o_extract (vs := [.pointer r9, .int .i64 r10]) (r := .int .i64 r10) rfl rfl) _) rfl ?_
    refine WL_val gd0 ((o_assign (v := .pointer r9) rfl) _) rfl ?_
    refine WL_val gd0 ((o_assign (v := .int .i64 r10) rfl) _) rfl ?_
    refine WL_nil ?_
    refine nrm ?_
    refine WC_seq ?_
    refine WC_region ?_
    refine WL_val gd0 ((o_move (v := .slice l_a1 l_n2 l_c3) (by exact e0)) _) rfl ?_
    refine WL_call gd0 (o_call Try.call9 (argCons rfl argNil) _) rfl (h.mono ?_)
    rintro _ w11 ⟨r_a12, r_n13, r_c14, r_a15, r_n16, r_c17, r_a18, r_n19, r_c20, r21, rfl, h⟩
    refine WL_val gd0 ((o_move (v := .tuple #[.agg #[.slice r_a12 r_n13 r_c14, .slice r_a15 r_n16 r_c17, .slice r_a18 r_n19 r_c20], .int .i64 r21]) rfl) _) rfl ?_
    refine WL_val gd0 ((o_extract (vs := [.agg #[.slice r_a12 r_n13 r_c14, .slice r_a15 r_n16 r_c17, .slice r_a18 r_n19 r_c20], .int .i64 r21]) (r := .agg #[.slice r_a12 r_n13 r_c14, .slice r_a15 r_n16 r_c17, .slice r_a18 r_n19 r_c20]) rfl rfl) _) rfl ?_
    refine WL_val gd0 ((o_extract (vs := [.agg #[.slice r_a12 r_n13 r_c14, .slice r_a15 r_n16 r_c17, .slice r_a18 r_n19 r_c20], .int .i64 r21]) (r := .int .i64 r21) rfl rfl) _) rfl ?_
    have h := New.out h
    refine WL_val gd0 (o_alloc (z := .agg #[.slice none 0 0, .slice none 0 0, .slice none 0 0]) (cs := [.slice none 0 0, .slice none 0 0, .slice none 0 0]) Try.zeroValue30 rfl) rfl ?_
    generalize hp22 : fresh w11 = p22 at h ⊢
    generalize hw23 : push w11 30 [.slice none 0 0, .slice none 0 0, .slice none 0 0] = w23 at h ⊢
    try dsimp only at h
    obtain ⟨c25, h⟩ := h
    refine WL_act gd0 (o_storeAgg (vs := [.slice r_a12 r_n13 r_c14, .slice r_a15 r_n16 r_c17, .slice r_a18 r_n19 r_c20]) Try.sizeOf30 rfl rfl rfl c25) ?_
    generalize hw24 : setAll w23 p22 0 [.slice r_a12 r_n13 r_c14, .slice r_a15 r_n16 r_c17, .slice r_a18 r_n19 r_c20] = w24 at h ⊢
    try dsimp only at h
    refine WL_val gd0 ((o_assign (v := .int .i64 r21) rfl) _) rfl ?_
    refine WL_nil ?_
    refine nrm ?_
    refine WC_seq ?_
    refine WC_region ?_
    refine WL_val gd0 ((o_move (v := .int .i64 r10) rfl) _) rfl ?_
    refine WL_val gd0 ((o_move (v := .int .i64 r21) rfl) _) rfl ?_
    refine WL_val gd0 ((o_eql rfl rfl) _) rfl ?_
    refine WL_val gd0 ((o_move (v := .bool (decide (r10 = r21))) rfl) _) rfl ?_
    refine bsplit (decide (r10 = r21)) (fun hb26 => ?_) (fun hb26 => ?_)
    · rw [if_pos (of_decide_eq_true hb26)] at h
      refine WL_val (gdY (b := (decide (r10 = r21))) 24 rfl rfl hb26) ((o_move (v := .pointer r9) rfl) _) rfl ?_
      refine WL_val (gdY (b := (decide (r10 = r21))) 24 rfl rfl hb26) ((o_eqlPtrNil Try.underlying24 rfl rfl) _) rfl ?_
      refine WL_val (gdY (b := (decide (r10 = r21))) 24 rfl rfl hb26) ((o_move (v := .int .i64 r21) rfl) _) rfl ?_
      refine WL_val (gdY (b := (decide (r10 = r21))) 24 rfl rfl hb26) ((o_neq rfl rfl) _) rfl ?_
      refine WL_val (gdY (b := (decide (r10 = r21))) 24 rfl rfl hb26) ((o_eqlBool Try.underlying4 rfl rfl) _) rfl ?_
      refine WL_val gd0 ((o_pickT (v := .bool (((r9).isNone) == (decide (r21 ≠ 0)))) rfl hb26 rfl) _) rfl ?_
      refine WL_val gd0 ((o_move (v := .bool (((r9).isNone) == (decide (r21 ≠ 0)))) rfl) _) rfl ?_
      refine bsplit (((r9).isNone) == (decide (r21 ≠ 0))) (fun hb27 => ?_) (fun hb27 => ?_)
      · rw [if_pos hb27] at h
        refine WL_call (gdY (b := (((r9).isNone) == (decide (r21 ≠ 0)))) 31 rfl rfl hb27) (o_call Try.call7 argNil _) rfl (h.mono ?_)
        rintro _ w28 ⟨x29, rfl, h⟩
        refine WL_val gd0 ((o_pickT (v := .bool x29) rfl hb27 rfl) _) rfl ?_
        refine WL_val gd0 ((o_assign (v := .bool x29) rfl) _) rfl ?_
        refine WL_nil ?_
        refine nrm ?_
        refine WC_ret ?_
        refine rtE ?_
        exact gv1 rfl rfl h
      · rw [if_neg (neT hb27)] at h
        refine WL_skip (gdN (b := (((r9).isNone) == (decide (r21 ≠ 0)))) 31 rfl rfl hb27) rfl ?_
        refine WL_val gd0 ((o_pickF (v := .bool false) rfl hb27 rfl) _) rfl ?_
        refine WL_val gd0 ((o_assign (v := .bool false) rfl) _) rfl ?_
        refine WL_nil ?_
        refine nrm ?_
        refine WC_ret ?_
        refine rtE ?_
        exact gv1 rfl rfl h
    · rw [if_neg (of_decide_eq_false hb26)] at h
      refine WL_skip (gdN (b := (decide (r10 = r21))) 24 rfl rfl hb26) rfl ?_
      refine WL_skip (gdN (b := (decide (r10 = r21))) 24 rfl rfl hb26) rfl ?_
      refine WL_skip (gdN (b := (decide (r10 = r21))) 24 rfl rfl hb26) rfl ?_
      refine WL_skip (gdN (b := (decide (r10 = r21))) 24 rfl rfl hb26) rfl ?_
      refine WL_skip (gdN (b := (decide (r10 = r21))) 24 rfl rfl hb26) rfl ?_
      refine WL_val gd0 ((o_pickF (v := .bool false) rfl hb26 rfl) _) rfl ?_
      refine WL_val gd0 ((o_move (v := .bool false) rfl) _) rfl ?_
      refine WL_skip (gdN (b := false) 31 rfl rfl rfl) rfl ?_
      refine WL_val gd0 ((o_pickF (v := .bool false) rfl rfl rfl) _) rfl ?_
      refine WL_val gd0 ((o_assign (v := .bool false) rfl) _) rfl ?_
      refine WL_nil ?_
      refine nrm ?_
      refine WC_ret ?_
      refine rtE ?_
      exact gv1 rfl rfl h

def F4_b4 (s_n18 : Nat) (s_a17 : Option Addr) (r62 : Option Addr) (rounds4 : Int) (r63 : Int) (i83 : Int) (w84 : World) (k : Value → World → Prop) (nx84 : Int → World → Prop) : Prop :=
  if i83 < (s_n18 : Int) then
  ∃ (p89 : Addr), s_a17 = some p89 ∧ (0 : Int) ≤ i83 ∧ i83 < (s_n18 : Int) ∧ ∃ (x91 : Int), w84.drew.cell? ((p89.add (i83.toNat * 3)).add 2) = some (.int .i64 x91) ∧ Does Try.prog 11 #[.pointer r62, .int .i64 i83] w84.drew (fun v w93 => ∃ (x94 : Int), v = .int .i64 x94 ∧ w93.cell? ((p89.add (i83.toNat * 3)).add 2) = some (.int .i64 x91) ∧ if x94 ≠ (IntKind.i64.wrap (x91 * rounds4)) then
    k (.bool false) w93
  else
    nx84 (IntKind.i64.wrap (i83 + 1)) w93)
else
  if r63 = 0 then
    Does Try.prog 7 #[] w84 (fun v w98 => ∃ (x99 : Bool), v = .bool x99 ∧ k (.bool x99) w98)
  else
    k (.bool false) w84
def F4_b3 (sum25 : Int) (rounds4 : Int) (r62 : Option Addr) (ids_a21 : Option Addr) (ids_n22 : Nat) (ids_c23 : Nat) (s_n18 : Nat) (s_a17 : Option Addr) (r63 : Int) (i71 : Int) (w72 : World) (nx72 : Int → World → Prop) (k : Value → World → Prop) : Prop :=
  if i71 < (IntKind.i64.wrap (sum25 * rounds4)) then
  Does Try.prog 10 #[.pointer r62, .slice ids_a21 ids_n22 ids_c23] w72 (fun v w75 => ∃ (r76 : Int) (r77 : Bool), v = .tuple #[.int .i64 r76, .bool r77] ∧ nx72 (IntKind.i64.wrap (i71 + 1)) w75)
else
  LoopP (fun (s : Int) w' nx' => F4_b4 s_n18 s_a17 r62 rounds4 r63 s w' k (fun x0 w => nx' x0 w)) 0 w72
def F4_b2 (l_n2 : Nat) (l_a1 : Option Addr) (rounds4 : Int) (s_a17 : Option Addr) (s_n18 : Nat) (s_c19 : Nat) (ids_a21 : Option Addr) (ids_n22 : Nat) (ids_c23 : Nat) (sum25 : Int) (i27 : Int) (w28 : World) (nx28 : Option Addr → Nat → Nat → Option Addr → Nat → Nat → Int → Int → World → Prop) (k : Value → World → Prop) : Prop :=
  if i27 < (l_n2 : Int) then
  ∃ (p33 : Addr), l_a1 = some p33 ∧ (0 : Int) ≤ i27 ∧ i27 < (l_n2 : Int) ∧ ∃ (x35 : Int), w28.cell? ((p33.add (i27.toNat * 3)).add 2) = some (.int .i64 x35) ∧ New w28 35 [.int .i64 0, .int .i64 0, .int .i64 0] (fun p37 w38 => PutAll w38 p37 [.int .i64 i27, .int .i64 2, .int .i64 (IntKind.i64.wrap (1 + (Int.tmod (IntKind.i64.wrap ((Int.tmod x35 20) + 20)) 20)))] (fun w39 => ∃ (x41 x42 x43 : Int), Cells w39 p37 0 [.int .i64 x41, .int .i64 x42, .int .i64 x43] ∧ New w39 35 [.int .i64 x41, .int .i64 x42, .int .i64 x43] (fun p45 w46 => ∃ (b_a47 : Option Addr) (b_n48 b_c49 : Nat) (w50 : World), (Builtin.append_ #[22, 22] 22 #[.slice s_a17 s_n18 s_c19, .slice (some p45) 1 1]).run Try.prog w46 = .ok (.slice b_a47 b_n48 b_c49) w50 ∧ New w50 3 [.int .i64 i27] (fun p52 w53 => ∃ (b_a54 : Option Addr) (b_n55 b_c56 : Nat) (w57 : World), (Builtin.append_ #[28, 28] 28 #[.slice ids_a21 ids_n22 ids_c23, .slice (some p52) 1 1]).run Try.prog w53 = .ok (.slice b_a54 b_n55 b_c56) w57 ∧ ∃ (x59 : Int), w57.cell? (p37.add 2) = some (.int .i64 x59) ∧ nx28 b_a47 b_n48 b_c49 b_a54 b_n55 b_c56 (IntKind.i64.wrap (sum25 + x59)) (IntKind.i64.wrap (i27 + 1)) w57))))
else
  Does Try.prog 8 #[.slice s_a17 s_n18 s_c19] w28 (fun v w61 => ∃ (r62 : Option Addr) (r63 : Int), v = .tuple #[.pointer r62, .int .i64 r63] ∧ LoopP (fun (s : Int) w' nx' => F4_b3 sum25 rounds4 r62 ids_a21 ids_n22 ids_c23 s_n18 s_a17 r63 s w' (fun x0 w => nx' x0 w) k) 0 w61)
def F4_j1 (l_n2 : Nat) (l_a1 : Option Addr) (rounds4 : Int) (t9 : Bool) (w10 : World) (k : Value → World → Prop) : Prop :=
  if t9 = true then
  Does Try.prog 7 #[] w10 (fun v w12 => ∃ (t13 : Bool), v = .bool t13 ∧ k (.bool t13) w12)
else
  LoopP (fun (s : Option Addr × Nat × Nat × Option Addr × Nat × Nat × Int × Int) w' nx' => F4_b2 l_n2 l_a1 rounds4 (s.1) (s.2.1) (s.2.2.1) (s.2.2.2.1) (s.2.2.2.2.1) (s.2.2.2.2.2.1) (s.2.2.2.2.2.2.1) (s.2.2.2.2.2.2.2) w' (fun x0 x1 x2 x3 x4 x5 x6 x7 w => nx' (x0, x1, x2, x3, x4, x5, x6, x7) w) k) (none, 0, 0, none, 0, 0, 0, 0) w10
/-- spacecraft spacecraftlaw22.MuxShares -/
def F4 (l_a1 : Option Addr) (l_n2 : Nat) (l_c3 : Nat) (rounds4 : Int) (w5 : World) (k : Value → World → Prop) : Prop :=
  if 8 < (l_n2 : Int) then
  F4_j1 l_n2 l_a1 rounds4 true w5 k
else
  if (l_n2 : Int) = 0 then
    F4_j1 l_n2 l_a1 rounds4 true w5 k
  else
    if rounds4 < 1 then
      F4_j1 l_n2 l_a1 rounds4 true w5 k
    else
      F4_j1 l_n2 l_a1 rounds4 (decide (3 < rounds4)) w5 k
set_option maxRecDepth 100000 in
set_option maxHeartbeats 2000000 in
theorem w4 (l_a1 : Option Addr) (l_n2 : Nat) (l_c3 : Nat) (rounds4 : Int) (w5 : World) (k : Value → World → Prop) (h : F4 l_a1 l_n2 l_c3 rounds4 w5 k) : Does Try.prog 4 #[.slice l_a1 l_n2 l_c3, .int .i64 rounds4] w5 k := by
  refine enter 97 Try.func4 rfl rfl rfl ?_
  intro ρ hρ
  have e0 := hρ 0 _ rfl
  have e1 := hρ 1 _ rfl
  unfold F4 at h
  refine WC_seq ?_
  refine WC_region ?_
  refine WL_val gd0 ((o_assign (v := .bool false) rfl) _) rfl ?_
  refine WL_nil ?_
  refine nrm ?_
  refine WC_seq ?_
  refine WC_cut (fun ρ w' => ∃ (t9 : Bool), ρ 29 = .bool t9 ∧ ρ 0 = .slice l_a1 l_n2 l_c3 ∧ ρ 1 = .int .i64 rounds4 ∧ F4_j1 l_n2 l_a1 rounds4 t9 w' k) ?_ ?_
  · refine WC_region ?_
    refine WL_val gd0 ((o_move (v := .slice l_a1 l_n2 l_c3) (by exact e0)) _) rfl ?_
    refine WL_val gd0 ((o_len Try.underlying22 rfl) _) rfl ?_
    refine WL_val gd0 ((o_gtr rfl rfl) _) rfl ?_
    refine WL_val gd0 ((o_move (v := .bool (decide (8 < (l_n2 : Int)))) rfl) _) rfl ?_
    refine bsplit (decide (8 < (l_n2 : Int))) (fun hb100 => ?_) (fun hb100 => ?_)
    · rw [if_pos (of_decide_eq_true hb100)] at h
      refine WL_skip (gdN (b := (decide (8 < (l_n2 : Int)))) 17 rfl rfl hb100) rfl ?_
      refine WL_skip (gdN (b := (decide (8 < (l_n2 : Int)))) 17 rfl rfl hb100) rfl ?_
      refine WL_skip (gdN (b := (decide (8 < (l_n2 : Int)))) 17 rfl rfl hb100) rfl ?_
      refine WL_val gd0 ((o_pickT (v := .bool true) rfl hb100 rfl) _) rfl ?_
      refine WL_val gd0 ((o_move (v := .bool true) rfl) _) rfl ?_
      refine WL_skip (gdN (b := true) 22 rfl rfl rfl) rfl ?_
      refine WL_skip (gdN (b := true) 22 rfl rfl rfl) rfl ?_
      refine WL_val gd0 ((o_pickT (v := .bool true) rfl rfl rfl) _) rfl ?_
      refine WL_val gd0 ((o_move (v := .bool true) rfl) _) rfl ?_
      refine WL_skip (gdN (b := true) 26 rfl rfl rfl) rfl ?_
      refine WL_skip (gdN (b := true) 26 rfl rfl rfl) rfl ?_
      refine WL_val gd0 ((o_pickT (v := .bool true) rfl rfl rfl) _) rfl ?_
      refine WL_nil ?_
      refine nrm ?_
      exact ⟨_, rfl, e0, e1, h⟩
    · rw [if_neg (of_decide_eq_false hb100)] at h
      refine WL_val (gdY (b := (decide (8 < (l_n2 : Int)))) 17 rfl rfl hb100) ((o_move (v := .slice l_a1 l_n2 l_c3) (by exact e0)) _) rfl ?_
      refine WL_val (gdY (b := (decide (8 < (l_n2 : Int)))) 17 rfl rfl hb100) ((o_len Try.underlying22 rfl) _) rfl ?_
      refine WL_val (gdY (b := (decide (8 < (l_n2 : Int)))) 17 rfl rfl hb100) ((o_eql rfl rfl) _) rfl ?_
      refine WL_val gd0 ((o_pickF (v := .bool (decide ((l_n2 : Int) = 0))) rfl hb100 rfl) _) rfl ?_
      refine WL_val gd0 ((o_move (v := .bool (decide ((l_n2 : Int) = 0))) rfl) _) rfl ?_
      refine bsplit (decide ((l_n2 : Int) = 0)) (fun hb101 => ?_) (fun hb101 => ?_)
      · rw [if_pos (of_decide_eq_true hb101)] at h
        refine WL_skip (gdN (b := (decide ((l_n2 : Int) = 0))) 22 rfl rfl hb101) rfl ?_
        refine WL_skip (gdN (b := (decide ((l_n2 : Int) = 0))) 22 rfl rfl hb101) rfl ?_
        refine WL_val gd0 ((o_pickT (v := .bool true) rfl hb101 rfl) _) rfl ?_
        refine WL_val gd0 ((o_move (v := .bool true) rfl) _) rfl ?_
        refine WL_skip (gdN (b := true) 26 rfl rfl rfl) rfl ?_
        refine WL_skip (gdN (b := true) 26 rfl rfl rfl) rfl ?_
        refine WL_val gd0 ((o_pickT (v := .bool true) rfl rfl rfl) _) rfl ?_
        refine WL_nil ?_
        refine nrm ?_
        exact ⟨_, rfl, e0, e1, h⟩
      · rw [if_neg (of_decide_eq_false hb101)] at h
        refine WL_val (gdY (b := (decide ((l_n2 : Int) = 0))) 22 rfl rfl hb101) ((o_move (v := .int .i64 rounds4) (by exact e1)) _) rfl ?_
        refine WL_val (gdY (b := (decide ((l_n2 : Int) = 0))) 22 rfl rfl hb101) ((o_lss rfl rfl) _) rfl ?_
        refine WL_val gd0 ((o_pickF (v := .bool (decide (rounds4 < 1))) rfl hb101 rfl) _) rfl ?_
        refine WL_val gd0 ((o_move (v := .bool (decide (rounds4 < 1))) rfl) _) rfl ?_
        refine bsplit (decide (rounds4 < 1)) (fun hb102 => ?_) (fun hb102 => ?_)
        · rw [if_pos (of_decide_eq_true hb102)] at h
          refine WL_skip (gdN (b := (decide (rounds4 < 1))) 26 rfl rfl hb102) rfl ?_
          refine WL_skip (gdN (b := (decide (rounds4 < 1))) 26 rfl rfl hb102) rfl ?_
          refine WL_val gd0 ((o_pickT (v := .bool true) rfl hb102 rfl) _) rfl ?_
          refine WL_nil ?_
          refine nrm ?_
          exact ⟨_, rfl, e0, e1, h⟩
        · rw [if_neg (of_decide_eq_false hb102)] at h
          refine WL_val (gdY (b := (decide (rounds4 < 1))) 26 rfl rfl hb102) ((o_move (v := .int .i64 rounds4) (by exact e1)) _) rfl ?_
          refine WL_val (gdY (b := (decide (rounds4 < 1))) 26 rfl rfl hb102) ((o_gtr rfl rfl) _) rfl ?_
          refine WL_val gd0 ((o_pickF (v := .bool (decide (3 < rounds4))) rfl hb102 rfl) _) rfl ?_
          refine WL_nil ?_
          refine nrm ?_
          exact ⟨_, rfl, e0, e1, h⟩
  · rintro ρ w10 ⟨t9, e29_8, e0_6, e1_7, h⟩
    unfold F4_j1 at h
    refine WC_cond (t := t9) (by exact e29_8) (fun hb11 => ?_) (fun hb11 => ?_)
    · rw [if_pos hb11] at h
      refine WC_seq ?_
      refine WC_region ?_
      refine WL_call gd0 (o_call Try.call7 argNil _) rfl (h.mono ?_)
      rintro _ w12 ⟨t13, rfl, h⟩
      refine WL_val gd0 ((o_assign (v := .bool t13) rfl) _) rfl ?_
      refine WL_nil ?_
      refine nrm ?_
      refine WC_ret ?_
      refine rtT ?_
      refine rtE ?_
      exact gv1 rfl rfl h
    · rw [if_neg (neT hb11)] at h
      refine WC_skip ?_
      refine nrm ?_
      refine WC_seq ?_
      refine WC_region ?_
      refine WL_val gd0 ((o_assign (v := .slice none 0 0) rfl) _) rfl ?_
      refine WL_nil ?_
      refine nrm ?_
      refine WC_seq ?_
      refine WC_region ?_
      refine WL_val gd0 ((o_assign (v := .slice none 0 0) rfl) _) rfl ?_
      refine WL_nil ?_
      refine nrm ?_
      refine WC_seq ?_
      refine WC_region ?_
      refine WL_val gd0 ((o_assign (v := .int .i64 0) rfl) _) rfl ?_
      refine WL_nil ?_
      refine nrm ?_
      refine WC_seq ?_
      refine WC_seq ?_
      refine WC_region ?_
      refine WL_val gd0 ((o_assign (v := .int .i64 0) rfl) _) rfl ?_
      refine WL_nil ?_
      refine nrm ?_
      refine WC_block ?_
      obtain ⟨J28, ⟨n28, h0⟩, hr28⟩ := h
      refine WC_loop (fun n ρ w' => ∃ (s_a17 : Option Addr) (s_n18 s_c19 : Nat) (ids_a21 : Option Addr) (ids_n22 ids_c23 : Nat) (sum25 i27 : Int), ρ 5 = .slice s_a17 s_n18 s_c19 ∧ ρ 6 = .slice ids_a21 ids_n22 ids_c23 ∧ ρ 7 = .int .i64 sum25 ∧ ρ 8 = .int .i64 i27 ∧ ρ 0 = .slice l_a1 l_n2 l_c3 ∧ ρ 1 = .int .i64 rounds4 ∧ J28 n (s_a17, s_n18, s_c19, ids_a21, ids_n22, ids_c23, sum25, i27) w') ⟨n28, _, _, _, _, _, _, _, _, rfl, rfl, rfl, rfl, e0_6, e1_7, h0⟩ ?_
      rintro n28 ρ w28 ⟨s_a17, s_n18, s_c19, ids_a21, ids_n22, ids_c23, sum25, i27, e5_16, e6_20, e7_24, e8_26, e0_14, e1_15, h⟩
      have h : F4_b2 l_n2 l_a1 rounds4 s_a17 s_n18 s_c19 ids_a21 ids_n22 ids_c23 sum25 i27 w28 (fun x0 x1 x2 x3 x4 x5 x6 x7 w => ∃ m, m < n28 ∧ J28 m (x0, x1, x2, x3, x4, x5, x6, x7) w) k := hr28 n28 (s_a17, s_n18, s_c19, ids_a21, ids_n22, ids_c23, sum25, i27) w28 h
      unfold F4_b2 at h
      refine WC_seq ?_
      refine WC_seq ?_
      refine WC_region ?_
      refine WL_val gd0 ((o_move (v := .int .i64 i27) (by exact e8_26)) _) rfl ?_
      refine WL_val gd0 ((o_move (v := .slice l_a1 l_n2 l_c3) (by exact e0_14)) _) rfl ?_
      refine WL_val gd0 ((o_len Try.underlying22 rfl) _) rfl ?_
      refine WL_val gd0 ((o_lss rfl rfl) _) rfl ?_
      refine WL_nil ?_
      refine nrm ?_
      refine WC_cond (t := (decide (i27 < (l_n2 : Int)))) rfl (fun hb30 => ?_) (fun hb30 => ?_)
      · rw [if_pos (of_decide_eq_true hb30)] at h
        refine WC_skip ?_
        refine nrm ?_
        refine WC_seq ?_
        refine WC_block ?_
        refine WC_seq ?_
        refine WC_region ?_
        refine WL_val gd0 ((o_move (v := .int .i64 i27) (by exact e8_26)) _) rfl ?_
        refine WL_val gd0 ((o_move (v := .slice l_a1 l_n2 l_c3) (by exact e0_14)) _) rfl ?_
        refine WL_val gd0 ((o_move (v := .int .i64 i27) (by exact e8_26)) _) rfl ?_
        obtain ⟨p33, q34, h⟩ := h
        obtain ⟨l31, u32, h⟩ := h
        refine WL_val gd0 ((o_indexAddr Try.underlying22 Try.sizeOf35 (by exact (congrArg (fun z => Value.slice z l_n2 l_c3) q34)) rfl l31 u32) _) rfl ?_
        refine WL_val gd0 ((o_fieldAddr 2 Try.underlying35 rfl Try.sizeOf3 rfl rfl rfl) _) rfl ?_
        obtain ⟨x35, hc36, h⟩ := h
        refine WL_val gd0 (o_load Try.isAgg3 rfl hc36) rfl ?_
        refine WL_val gd0 ((fun w => o_rem rfl rfl w (by decide)) _) rfl ?_
        refine WL_val gd0 ((o_add rfl rfl) _) rfl ?_
        refine WL_val gd0 ((fun w => o_rem rfl rfl w (by decide)) _) rfl ?_
        refine WL_val gd0 ((o_add rfl rfl) _) rfl ?_
        refine WL_val gd0 ((o_build (ps := [(0, .int .i64 i27), (1, .int .i64 2), (2, .int .i64 (IntKind.i64.wrap (1 + (Int.tmod (IntKind.i64.wrap ((Int.tmod x35 20) + 20)) 20))))]) (v := .agg #[.int .i64 i27, .int .i64 2, .int .i64 (IntKind.i64.wrap (1 + (Int.tmod (IntKind.i64.wrap ((Int.tmod x35 20) + 20)) 20)))]) (partCons rfl (partCons rfl (partCons rfl partNil))) (fun w => by kernel_rfl)) _) rfl ?_
        have h := New.out h
        refine WL_val gd0 (o_alloc (z := .agg #[.int .i64 0, .int .i64 0, .int .i64 0]) (cs := [.int .i64 0, .int .i64 0, .int .i64 0]) Try.zeroValue35 rfl) rfl ?_
        generalize hp37 : fresh w28 = p37 at h ⊢
        generalize hw38 : push w28 35 [.int .i64 0, .int .i64 0, .int .i64 0] = w38 at h ⊢
        try dsimp only at h
        obtain ⟨c40, h⟩ := h
        refine WL_act gd0 (o_storeAgg (vs := [.int .i64 i27, .int .i64 2, .int .i64 (IntKind.i64.wrap (1 + (Int.tmod (IntKind.i64.wrap ((Int.tmod x35 20) + 20)) 20)))]) Try.sizeOf35 rfl rfl rfl c40) ?_
        generalize hw39 : setAll w38 p37 0 [.int .i64 i27, .int .i64 2, .int .i64 (IntKind.i64.wrap (1 + (Int.tmod (IntKind.i64.wrap ((Int.tmod x35 20) + 20)) 20)))] = w39 at h ⊢
        try dsimp only at h
        refine WL_nil ?_
        refine nrm ?_
        refine WC_seq ?_
        refine WC_region ?_
        refine WL_val gd0 ((o_move (v := .slice s_a17 s_n18 s_c19) (by exact e5_16)) _) rfl ?_
        obtain ⟨x41, x42, x43, hc44, h⟩ := h
        refine WL_val gd0 (o_loadAgg (vs := [.int .i64 x41, .int .i64 x42, .int .i64 x43]) Try.isAgg35 Try.sizeOf35 rfl hc44) rfl ?_
        have h := New.out h
        refine WL_val gd0 (o_buildSlice (e := 35) (ps := [(0, .agg #[.int .i64 x41, .int .i64 x42, .int .i64 x43])]) (cs := [.int .i64 x41, .int .i64 x42, .int .i64 x43]) (partCons rfl partNil) (fun w => by kernel_rfl)) rfl ?_
        generalize hp45 : fresh w39 = p45 at h ⊢
        generalize hw46 : push w39 35 [.int .i64 x41, .int .i64 x42, .int .i64 x43] = w46 at h ⊢
        try dsimp only at h
        obtain ⟨b_a47, b_n48, b_c49, w50, r51, h⟩ := h
        refine WL_val gd0 (o_append rfl rfl r51) rfl ?_
        refine WL_val gd0 ((o_assign (v := .slice b_a47 b_n48 b_c49) rfl) _) rfl ?_
        refine WL_nil ?_
        refine nrm ?_
        refine WC_seq ?_
        refine WC_region ?_
        refine WL_val gd0 ((o_move (v := .slice ids_a21 ids_n22 ids_c23) (by exact e6_20)) _) rfl ?_
        refine WL_val gd0 ((o_move (v := .int .i64 i27) (by exact e8_26)) _) rfl ?_
        have h := New.out h
        refine WL_val gd0 (o_buildSlice (e := 3) (ps := [(0, .int .i64 i27)]) (cs := [.int .i64 i27]) (partCons rfl partNil) (fun w => by kernel_rfl)) rfl ?_
        generalize hp52 : fresh w50 = p52 at h ⊢
        generalize hw53 : push w50 3 [.int .i64 i27] = w53 at h ⊢
        try dsimp only at h
        obtain ⟨b_a54, b_n55, b_c56, w57, r58, h⟩ := h
        refine WL_val gd0 (o_append rfl rfl r58) rfl ?_
        refine WL_val gd0 ((o_assign (v := .slice b_a54 b_n55 b_c56) rfl) _) rfl ?_
        refine WL_nil ?_
        refine nrm ?_
        refine WC_region ?_
        refine WL_val gd0 ((o_move (v := .int .i64 sum25) (by exact e7_24)) _) rfl ?_
        refine WL_val gd0 ((o_fieldAddr 2 Try.underlying35 rfl Try.sizeOf3 rfl rfl rfl) _) rfl ?_
        obtain ⟨x59, hc60, h⟩ := h
        refine WL_val gd0 (o_load Try.isAgg3 rfl hc60) rfl ?_
        refine WL_val gd0 ((o_add rfl rfl) _) rfl ?_
        refine WL_val gd0 ((o_assign (v := .int .i64 (IntKind.i64.wrap (sum25 + x59))) rfl) _) rfl ?_
        refine WL_nil ?_
        refine nrmB ?_
        refine nrm ?_
        refine WC_region ?_
        refine WL_val gd0 ((o_move (v := .int .i64 i27) (by exact e8_26)) _) rfl ?_
        refine WL_val gd0 ((o_add rfl rfl) _) rfl ?_
        refine WL_val gd0 ((o_assign (v := .int .i64 (IntKind.i64.wrap (i27 + 1))) rfl) _) rfl ?_
        refine WL_nil ?_
        refine nrm ?_
        obtain ⟨m29, hm29, h⟩ := h
        exact ⟨m29, hm29, _, _, _, _, _, _, _, _, rfl, rfl, rfl, rfl, e0_14, e1_15, h⟩
      · rw [if_neg (of_decide_eq_false hb30)] at h
        refine WC_exit ?_
        refine exT ?_
        refine exT ?_
        refine exB ?_
        refine nrm ?_
        refine WC_seq ?_
        refine WC_region ?_
        refine WL_val gd0 ((o_move (v := .slice s_a17 s_n18 s_c19) (by exact e5_16)) _) rfl ?_
        refine WL_call gd0 (o_call Try.call8 (argCons rfl argNil) _) rfl (h.mono ?_)
        rintro _ w61 ⟨r62, r63, rfl, h⟩
        refine WL_val gd0 ((o_move (v := .tuple #[.pointer r62, .int .i64 r63]) rfl) _) rfl ?_
        refine WL_val gd0 ((o_extract (vs := [.pointer r62, .int .i64 r63]) (r := .pointer r62) rfl rfl) _) rfl ?_
        refine WL_val gd0 ((o_extract (vs := [.pointer r62, .int .i64 r63]) (r := .int .i64 r63) rfl rfl) _) rfl ?_
        refine WL_val gd0 ((o_assign (v := .pointer r62) rfl) _) rfl ?_
        refine WL_val gd0 ((o_assign (v := .int .i64 r63) rfl) _) rfl ?_
        refine WL_nil ?_
        refine nrm ?_
        refine WC_seq ?_
        refine WC_seq ?_
        refine WC_region ?_
        refine WL_val gd0 ((o_assign (v := .int .i64 0) rfl) _) rfl ?_
        refine WL_nil ?_
        refine nrm ?_
        refine WC_block ?_
        obtain ⟨J72, ⟨n72, h0⟩, hr72⟩ := h
        refine WC_loop (fun n ρ w' => ∃ (i71 : Int), ρ 12 = .int .i64 i71 ∧ ρ 1 = .int .i64 rounds4 ∧ ρ 5 = .slice s_a17 s_n18 s_c19 ∧ ρ 6 = .slice ids_a21 ids_n22 ids_c23 ∧ ρ 7 = .int .i64 sum25 ∧ ρ 10 = .pointer r62 ∧ ρ 11 = .int .i64 r63 ∧ J72 n i71 w') ⟨n72, _, rfl, e1_15, e5_16, e6_20, e7_24, rfl, rfl, h0⟩ ?_
        rintro n72 ρ w72 ⟨i71, e12_70, e1_64, e5_65, e6_66, e7_67, e10_68, e11_69, h⟩
        have h : F4_b3 sum25 rounds4 r62 ids_a21 ids_n22 ids_c23 s_n18 s_a17 r63 i71 w72 (fun x0 w => ∃ m, m < n72 ∧ J72 m x0 w) k := hr72 n72 i71 w72 h
        unfold F4_b3 at h
        refine WC_seq ?_
        refine WC_seq ?_
        refine WC_region ?_
        refine WL_val gd0 ((o_move (v := .int .i64 i71) (by exact e12_70)) _) rfl ?_
        refine WL_val gd0 ((o_move (v := .int .i64 sum25) (by exact e7_67)) _) rfl ?_
        refine WL_val gd0 ((o_move (v := .int .i64 rounds4) (by exact e1_64)) _) rfl ?_
        refine WL_val gd0 ((o_mul rfl rfl) _) rfl ?_
        refine WL_val gd0 ((o_lss rfl rfl) _) rfl ?_
        refine WL_nil ?_
        refine nrm ?_
        refine WC_cond (t := (decide (i71 < (IntKind.i64.wrap (sum25 * rounds4))))) rfl (fun hb74 => ?_) (fun hb74 => ?_)
        · rw [if_pos (of_decide_eq_true hb74)] at h
          refine WC_skip ?_
          refine nrm ?_
          refine WC_seq ?_
          refine WC_block ?_
          refine WC_region ?_
          refine WL_val gd0 ((o_move (v := .pointer r62) (by exact e10_68)) _) rfl ?_
          refine WL_val gd0 ((o_move (v := .slice ids_a21 ids_n22 ids_c23) (by exact e6_66)) _) rfl ?_
          refine WL_call gd0 (o_call Try.call10 (argCons rfl (argCons rfl argNil)) _) rfl (h.mono ?_)
          rintro _ w75 ⟨r76, r77, rfl, h⟩
          refine WL_nil ?_
          refine nrmB ?_
          refine nrm ?_
          refine WC_region ?_
          refine WL_val gd0 ((o_move (v := .int .i64 i71) (by exact e12_70)) _) rfl ?_
          refine WL_val gd0 ((o_add rfl rfl) _) rfl ?_
          refine WL_val gd0 ((o_assign (v := .int .i64 (IntKind.i64.wrap (i71 + 1))) rfl) _) rfl ?_
          refine WL_nil ?_
          refine nrm ?_
          obtain ⟨m73, hm73, h⟩ := h
          exact ⟨m73, hm73, _, rfl, e1_64, e5_65, e6_66, e7_67, e10_68, e11_69, h⟩
        · rw [if_neg (of_decide_eq_false hb74)] at h
          refine WC_exit ?_
          refine exT ?_
          refine exT ?_
          refine exB ?_
          refine nrm ?_
          refine WC_seq ?_
          refine WC_seq ?_
          refine WC_region ?_
          refine WL_val gd0 ((o_assign (v := .int .i64 0) rfl) _) rfl ?_
          refine WL_nil ?_
          refine nrm ?_
          refine WC_block ?_
          obtain ⟨J84, ⟨n84, h0⟩, hr84⟩ := h
          refine WC_loop (fun n ρ w' => ∃ (i83 : Int), ρ 13 = .int .i64 i83 ∧ ρ 1 = .int .i64 rounds4 ∧ ρ 5 = .slice s_a17 s_n18 s_c19 ∧ ρ 10 = .pointer r62 ∧ ρ 11 = .int .i64 r63 ∧ J84 n i83 w') ⟨n84, _, rfl, e1_64, e5_65, e10_68, e11_69, h0⟩ ?_
          rintro n84 ρ w84 ⟨i83, e13_82, e1_78, e5_79, e10_80, e11_81, h⟩
          have h : F4_b4 s_n18 s_a17 r62 rounds4 r63 i83 w84 k (fun x0 w => ∃ m, m < n84 ∧ J84 m x0 w) := hr84 n84 i83 w84 h
          unfold F4_b4 at h
          refine WC_seq ?_
          refine WC_seq ?_
          refine WC_region ?_
          refine WL_val gd0 ((o_move (v := .int .i64 i83) (by exact e13_82)) _) rfl ?_
          refine WL_val gd0 ((o_move (v := .slice s_a17 s_n18 s_c19) (by exact e5_79)) _) rfl ?_
          refine WL_val gd0 ((o_len Try.underlying22 rfl) _) rfl ?_
          refine WL_val gd0 ((o_lss rfl rfl) _) rfl ?_
          refine WL_nil ?_
          refine nrm ?_
          refine WC_cond (t := (decide (i83 < (s_n18 : Int)))) rfl (fun hb86 => ?_) (fun hb86 => ?_)
          · rw [if_pos (of_decide_eq_true hb86)] at h
            refine WC_skip ?_
            refine nrm ?_
            refine WC_seq ?_
            refine WC_block ?_
            refine WC_seq ?_
            refine WC_draws [2] (.look 0 (.look 1 (.look 3 (.look 4 (.look 5 (.look 6 (.look 7 (.look 8 (.look 9 (.act 2 (.look 10 .nil))))))))))) Try.mixed (by kernel_rfl) ?_
            refine WQ_val rfl gd0 (o_move (v := .pointer r62) (by exact e10_80)) rfl ?_
            refine WQ_val rfl gd0 (o_move (v := .int .i64 i83) (by exact e13_82)) rfl ?_
            refine WQ_val rfl gd0 (o_move (v := .slice s_a17 s_n18 s_c19) (by exact e5_79)) rfl ?_
            refine WQ_val rfl gd0 (o_move (v := .int .i64 i83) (by exact e13_82)) rfl ?_
            obtain ⟨p89, q90, h⟩ := h
            obtain ⟨l87, u88, h⟩ := h
            refine WQ_val rfl gd0 (o_indexAddr Try.underlying22 Try.sizeOf35 (by exact (congrArg (fun z => Value.slice z s_n18 s_c19) q90)) rfl l87 u88) rfl ?_
            refine WQ_val rfl gd0 (o_fieldAddr 2 Try.underlying35 rfl Try.sizeOf3 rfl rfl rfl) rfl ?_
            obtain ⟨x91, hc92, h⟩ := h
            refine WQ_look (fun w => w.cell? ((p89.add (i83.toNat * 3)).add 2) = some (.int .i64 x91)) rfl gd0 (fun w hc => (o_load Try.isAgg3 rfl hc)) hc92 rfl ?_
            refine WQ_val rfl gd0 (o_move (v := .int .i64 rounds4) (by exact e1_78)) rfl ?_
            refine WQ_val rfl gd0 (o_mul rfl rfl) rfl ?_
            refine WQ_call rfl gd0 (o_call Try.call11 (argCons rfl (argCons rfl argNil)) _) rfl (h.mono ?_)
            rintro _ w93 ⟨x94, rfl, hh95, h⟩
            refine ⟨⟨trivial, fun _ => hh95⟩, ?_⟩
            refine WQ_val rfl gd0 (o_neq rfl rfl) rfl ?_
            refine WQ_nil ?_
            refine nrm ?_
            refine WC_cond (t := (decide (x94 ≠ (IntKind.i64.wrap (x91 * rounds4))))) rfl (fun hb96 => ?_) (fun hb96 => ?_)
            · rw [if_pos (of_decide_eq_true hb96)] at h
              refine WC_seq ?_
              refine WC_region ?_
              refine WL_val gd0 ((o_assign (v := .bool false) rfl) _) rfl ?_
              refine WL_nil ?_
              refine nrm ?_
              refine WC_ret ?_
              refine rtB ?_
              refine rtT ?_
              refine rtT ?_
              refine rtB ?_
              refine rtT ?_
              refine rtE ?_
              exact gv1 rfl rfl h
            · rw [if_neg (of_decide_eq_false hb96)] at h
              refine WC_skip ?_
              refine nrmB ?_
              refine nrm ?_
              refine WC_region ?_
              refine WL_val gd0 ((o_move (v := .int .i64 i83) (by exact e13_82)) _) rfl ?_
              refine WL_val gd0 ((o_add rfl rfl) _) rfl ?_
              refine WL_val gd0 ((o_assign (v := .int .i64 (IntKind.i64.wrap (i83 + 1))) rfl) _) rfl ?_
              refine WL_nil ?_
              refine nrm ?_
              obtain ⟨m85, hm85, h⟩ := h
              exact ⟨m85, hm85, _, rfl, e1_78, e5_79, e10_80, e11_81, h⟩
          · rw [if_neg (of_decide_eq_false hb86)] at h
            refine WC_exit ?_
            refine exT ?_
            refine exT ?_
            refine exB ?_
            refine nrm ?_
            refine WC_seq ?_
            refine WC_region ?_
            refine WL_val gd0 ((o_move (v := .int .i64 r63) (by exact e11_81)) _) rfl ?_
            refine WL_val gd0 ((o_eql rfl rfl) _) rfl ?_
            refine WL_val gd0 ((o_move (v := .bool (decide (r63 = 0))) rfl) _) rfl ?_
            refine bsplit (decide (r63 = 0)) (fun hb97 => ?_) (fun hb97 => ?_)
            · rw [if_pos (of_decide_eq_true hb97)] at h
              refine WL_call (gdY (b := (decide (r63 = 0))) 94 rfl rfl hb97) (o_call Try.call7 argNil _) rfl (h.mono ?_)
              rintro _ w98 ⟨x99, rfl, h⟩
              refine WL_val gd0 ((o_pickT (v := .bool x99) rfl hb97 rfl) _) rfl ?_
              refine WL_val gd0 ((o_assign (v := .bool x99) rfl) _) rfl ?_
              refine WL_nil ?_
              refine nrm ?_
              refine WC_ret ?_
              refine rtE ?_
              exact gv1 rfl rfl h
            · rw [if_neg (of_decide_eq_false hb97)] at h
              refine WL_skip (gdN (b := (decide (r63 = 0))) 94 rfl rfl hb97) rfl ?_
              refine WL_val gd0 ((o_pickF (v := .bool false) rfl hb97 rfl) _) rfl ?_
              refine WL_val gd0 ((o_assign (v := .bool false) rfl) _) rfl ?_
              refine WL_nil ?_
              refine nrm ?_
              refine WC_ret ?_
              refine rtE ?_
              exact gv1 rfl rfl h

def F5_b3 (l_n2 : Nat) (l_a1 : Option Addr) (i30 : Int) (r23 : Int) (ready_a4 : Option Addr) (ready_n5 : Nat) (ready_c6 : Nat) (j41 : Int) (w42 : World) (k : Value → World → Prop) (nx42 : Int → World → Prop) (nx31 : Int → World → Prop) : Prop :=
  if j41 < (l_n2 : Int) then
  ∃ (p47 : Addr), l_a1 = some p47 ∧ (0 : Int) ≤ i30 ∧ i30 < (l_n2 : Int) ∧ ∃ (x49 : Int), w42.drew.cell? (p47.add (i30.toNat * 3)) = some (.int .i64 x49) ∧ if x49 = r23 then
    (0 : Int) ≤ j41 ∧ j41 < (l_n2 : Int) ∧ ∃ (x54 : Int), w42.drew.cell? ((p47.add (j41.toNat * 3)).add 1) = some (.int .i64 x54) ∧ (0 : Int) ≤ i30 ∧ i30 < (l_n2 : Int) ∧ ∃ (x58 : Int), w42.drew.cell? ((p47.add (i30.toNat * 3)).add 1) = some (.int .i64 x58) ∧ if x54 < x58 then
      (0 : Int) ≤ j41 ∧ j41 < (l_n2 : Int) ∧ ∃ (x63 : Int), w42.drew.cell? (p47.add (j41.toNat * 3)) = some (.int .i64 x63) ∧ Does Try.prog 12 #[.slice ready_a4 ready_n5 ready_c6, .int .i64 x63] w42.drew (fun v w65 => ∃ (x66 : Bool), v = .bool x66 ∧ if x66 = true then
        k (.bool false) w65
      else
        nx42 (IntKind.i64.wrap (j41 + 1)) w65)
    else
      nx42 (IntKind.i64.wrap (j41 + 1)) w42.drew
  else
    nx42 (IntKind.i64.wrap (j41 + 1)) w42.drew
else
  nx31 (IntKind.i64.wrap (i30 + 1)) w42
def F5_b2 (l_n2 : Nat) (r24 : Bool) (l_a1 : Option Addr) (r23 : Int) (ready_a4 : Option Addr) (ready_n5 : Nat) (ready_c6 : Nat) (i30 : Int) (w31 : World) (k : Value → World → Prop) (nx31 : Int → World → Prop) : Prop :=
  if i30 < (l_n2 : Int) then
  if r24 = true then
    LoopP (fun (s : Int) w' nx' => F5_b3 l_n2 l_a1 i30 r23 ready_a4 ready_n5 ready_c6 s w' k (fun x0 w => nx' x0 w) nx31) 0 w31
  else
    if (!r24) = true then
      Does Try.prog 7 #[] w31 (fun v w69 => ∃ (x70 : Bool), v = .bool x70 ∧ k (.bool x70) w69)
    else
      Does Try.prog 12 #[.slice ready_a4 ready_n5 ready_c6, .int .i64 r23] w31 (fun v w71 => ∃ (x72 : Bool), v = .bool x72 ∧ if x72 = true then
        Does Try.prog 7 #[] w71 (fun v w74 => ∃ (x75 : Bool), v = .bool x75 ∧ k (.bool x75) w74)
      else
        k (.bool false) w71)
else
  if (!r24) = true then
    Does Try.prog 7 #[] w31 (fun v w77 => ∃ (x78 : Bool), v = .bool x78 ∧ k (.bool x78) w77)
  else
    Does Try.prog 12 #[.slice ready_a4 ready_n5 ready_c6, .int .i64 r23] w31 (fun v w79 => ∃ (x80 : Bool), v = .bool x80 ∧ if x80 = true then
      Does Try.prog 7 #[] w79 (fun v w82 => ∃ (x83 : Bool), v = .bool x83 ∧ k (.bool x83) w82)
    else
      k (.bool false) w79)
def F5_j1 (l_a1 : Option Addr) (l_n2 : Nat) (l_c3 : Nat) (ready_a4 : Option Addr) (ready_n5 : Nat) (ready_c6 : Nat) (t11 : Bool) (w12 : World) (k : Value → World → Prop) : Prop :=
  if t11 = true then
  Does Try.prog 7 #[] w12 (fun v w14 => ∃ (t15 : Bool), v = .bool t15 ∧ k (.bool t15) w14)
else
  Does Try.prog 8 #[.slice l_a1 l_n2 l_c3] w12 (fun v w16 => ∃ (r17 : Option Addr) (r18 : Int), v = .tuple #[.pointer r17, .int .i64 r18] ∧ if r18 ≠ 0 then
    Does Try.prog 7 #[] w16 (fun v w20 => ∃ (t21 : Bool), v = .bool t21 ∧ k (.bool t21) w20)
  else
    Does Try.prog 10 #[.pointer r17, .slice ready_a4 ready_n5 ready_c6] w16 (fun v w22 => ∃ (r23 : Int) (r24 : Bool), v = .tuple #[.int .i64 r23, .bool r24] ∧ LoopP (fun (s : Int) w' nx' => F5_b2 l_n2 r24 l_a1 r23 ready_a4 ready_n5 ready_c6 s w' k (fun x0 w => nx' x0 w)) 0 w22))
/-- spacecraft spacecraftlaw22.MuxPrefers -/
def F5 (l_a1 : Option Addr) (l_n2 : Nat) (l_c3 : Nat) (ready_a4 : Option Addr) (ready_n5 : Nat) (ready_c6 : Nat) (w7 : World) (k : Value → World → Prop) : Prop :=
  if 30 < (l_n2 : Int) then
  F5_j1 l_a1 l_n2 l_c3 ready_a4 ready_n5 ready_c6 true w7 k
else
  F5_j1 l_a1 l_n2 l_c3 ready_a4 ready_n5 ready_c6 (decide (50 < (ready_n5 : Int))) w7 k
set_option maxRecDepth 100000 in
set_option maxHeartbeats 2000000 in
theorem w5 (l_a1 : Option Addr) (l_n2 : Nat) (l_c3 : Nat) (ready_a4 : Option Addr) (ready_n5 : Nat) (ready_c6 : Nat) (w7 : World) (k : Value → World → Prop) (h : F5 l_a1 l_n2 l_c3 ready_a4 ready_n5 ready_c6 w7 k) : Does Try.prog 5 #[.slice l_a1 l_n2 l_c3, .slice ready_a4 ready_n5 ready_c6] w7 k := by
  refine enter 88 Try.func5 rfl rfl rfl ?_
  intro ρ hρ
  have e0 := hρ 0 _ rfl
  have e1 := hρ 1 _ rfl
  unfold F5 at h
  refine WC_seq ?_
  refine WC_region ?_
  refine WL_val gd0 ((o_assign (v := .bool false) rfl) _) rfl ?_
  refine WL_nil ?_
  refine nrm ?_
  refine WC_seq ?_
  refine WC_cut (fun ρ w' => ∃ (t11 : Bool), ρ 18 = .bool t11 ∧ ρ 0 = .slice l_a1 l_n2 l_c3 ∧ ρ 1 = .slice ready_a4 ready_n5 ready_c6 ∧ F5_j1 l_a1 l_n2 l_c3 ready_a4 ready_n5 ready_c6 t11 w' k) ?_ ?_
  · refine WC_region ?_
    refine WL_val gd0 ((o_move (v := .slice l_a1 l_n2 l_c3) (by exact e0)) _) rfl ?_
    refine WL_val gd0 ((o_len Try.underlying22 rfl) _) rfl ?_
    refine WL_val gd0 ((o_gtr rfl rfl) _) rfl ?_
    refine WL_val gd0 ((o_move (v := .bool (decide (30 < (l_n2 : Int)))) rfl) _) rfl ?_
    refine bsplit (decide (30 < (l_n2 : Int))) (fun hb84 => ?_) (fun hb84 => ?_)
    · rw [if_pos (of_decide_eq_true hb84)] at h
      refine WL_skip (gdN (b := (decide (30 < (l_n2 : Int)))) 14 rfl rfl hb84) rfl ?_
      refine WL_skip (gdN (b := (decide (30 < (l_n2 : Int)))) 14 rfl rfl hb84) rfl ?_
      refine WL_skip (gdN (b := (decide (30 < (l_n2 : Int)))) 14 rfl rfl hb84) rfl ?_
      refine WL_val gd0 ((o_pickT (v := .bool true) rfl hb84 rfl) _) rfl ?_
      refine WL_nil ?_
      refine nrm ?_
      exact ⟨_, rfl, e0, e1, h⟩
    · rw [if_neg (of_decide_eq_false hb84)] at h
      refine WL_val (gdY (b := (decide (30 < (l_n2 : Int)))) 14 rfl rfl hb84) ((o_move (v := .slice ready_a4 ready_n5 ready_c6) (by exact e1)) _) rfl ?_
      refine WL_val (gdY (b := (decide (30 < (l_n2 : Int)))) 14 rfl rfl hb84) ((o_len Try.underlying28 rfl) _) rfl ?_
      refine WL_val (gdY (b := (decide (30 < (l_n2 : Int)))) 14 rfl rfl hb84) ((o_gtr rfl rfl) _) rfl ?_
      refine WL_val gd0 ((o_pickF (v := .bool (decide (50 < (ready_n5 : Int)))) rfl hb84 rfl) _) rfl ?_
      refine WL_nil ?_
      refine nrm ?_
      exact ⟨_, rfl, e0, e1, h⟩
  · rintro ρ w12 ⟨t11, e18_10, e0_8, e1_9, h⟩
    unfold F5_j1 at h
    refine WC_cond (t := t11) (by exact e18_10) (fun hb13 => ?_) (fun hb13 => ?_)
    · rw [if_pos hb13] at h
      refine WC_seq ?_
      refine WC_region ?_
      refine WL_call gd0 (o_call Try.call7 argNil _) rfl (h.mono ?_)
      rintro _ w14 ⟨t15, rfl, h⟩
      refine WL_val gd0 ((o_assign (v := .bool t15) rfl) _) rfl ?_
      refine WL_nil ?_
      refine nrm ?_
      refine WC_ret ?_
      refine rtT ?_
      refine rtE ?_
      exact gv1 rfl rfl h
    · rw [if_neg (neT hb13)] at h
      refine WC_skip ?_
      refine nrm ?_
      refine WC_seq ?_
      refine WC_region ?_
      refine WL_val gd0 ((o_move (v := .slice l_a1 l_n2 l_c3) (by exact e0_8)) _) rfl ?_
      refine WL_call gd0 (o_call Try.call8 (argCons rfl argNil) _) rfl (h.mono ?_)
      rintro _ w16 ⟨r17, r18, rfl, h⟩
      refine WL_val gd0 ((o_move (v := .tuple #[.pointer r17, .int .i64 r18]) rfl) _) rfl ?_
      refine WL_val gd0 ((o_extract (vs := [.pointer r17, .int .i64 r18]) (r := .pointer r17) rfl rfl) _) rfl ?_
      refine WL_val gd0 ((o_extract (vs := [.pointer r17, .int .i64 r18]) (r := .int .i64 r18) rfl rfl) _) rfl ?_
      refine WL_val gd0 ((o_assign (v := .pointer r17) rfl) _) rfl ?_
      refine WL_val gd0 ((o_assign (v := .int .i64 r18) rfl) _) rfl ?_
      refine WL_nil ?_
      refine nrm ?_
      refine WC_seq ?_
      refine WC_seq ?_
      refine WC_region ?_
      refine WL_val gd0 ((o_move (v := .int .i64 r18) rfl) _) rfl ?_
      refine WL_val gd0 ((o_neq rfl rfl) _) rfl ?_
      refine WL_nil ?_
      refine nrm ?_
      refine WC_cond (t := (decide (r18 ≠ 0))) rfl (fun hb19 => ?_) (fun hb19 => ?_)
      · rw [if_pos (of_decide_eq_true hb19)] at h
        refine WC_seq ?_
        refine WC_region ?_
        refine WL_call gd0 (o_call Try.call7 argNil _) rfl (h.mono ?_)
        rintro _ w20 ⟨t21, rfl, h⟩
        refine WL_val gd0 ((o_assign (v := .bool t21) rfl) _) rfl ?_
        refine WL_nil ?_
        refine nrm ?_
        refine WC_ret ?_
        refine rtT ?_
        refine rtE ?_
        exact gv1 rfl rfl h
      · rw [if_neg (of_decide_eq_false hb19)] at h
        refine WC_skip ?_
        refine nrm ?_
        refine WC_seq ?_
        refine WC_region ?_
        refine WL_val gd0 ((o_move (v := .pointer r17) rfl) _) rfl ?_
        refine WL_val gd0 ((o_move (v := .slice ready_a4 ready_n5 ready_c6) (by exact e1_9)) _) rfl ?_
        refine WL_call gd0 (o_call Try.call10 (argCons rfl (argCons rfl argNil)) _) rfl (h.mono ?_)
        rintro _ w22 ⟨r23, r24, rfl, h⟩
        refine WL_val gd0 ((o_move (v := .tuple #[.int .i64 r23, .bool r24]) rfl) _) rfl ?_
        refine WL_val gd0 ((o_extract (vs := [.int .i64 r23, .bool r24]) (r := .int .i64 r23) rfl rfl) _) rfl ?_
        refine WL_val gd0 ((o_extract (vs := [.int .i64 r23, .bool r24]) (r := .bool r24) rfl rfl) _) rfl ?_
        refine WL_val gd0 ((o_assign (v := .int .i64 r23) rfl) _) rfl ?_
        refine WL_val gd0 ((o_assign (v := .bool r24) rfl) _) rfl ?_
        refine WL_nil ?_
        refine nrm ?_
        refine WC_seq ?_
        refine WC_seq ?_
        refine WC_region ?_
        refine WL_val gd0 ((o_assign (v := .int .i64 0) rfl) _) rfl ?_
        refine WL_nil ?_
        refine nrm ?_
        refine WC_block ?_
        obtain ⟨J31, ⟨n31, h0⟩, hr31⟩ := h
        refine WC_loop (fun n ρ w' => ∃ (i30 : Int), ρ 9 = .int .i64 i30 ∧ ρ 0 = .slice l_a1 l_n2 l_c3 ∧ ρ 1 = .slice ready_a4 ready_n5 ready_c6 ∧ ρ 7 = .int .i64 r23 ∧ ρ 8 = .bool r24 ∧ J31 n i30 w') ⟨n31, _, rfl, e0_8, e1_9, rfl, rfl, h0⟩ ?_
        rintro n31 ρ w31 ⟨i30, e9_29, e0_25, e1_26, e7_27, e8_28, h⟩
        have h : F5_b2 l_n2 r24 l_a1 r23 ready_a4 ready_n5 ready_c6 i30 w31 k (fun x0 w => ∃ m, m < n31 ∧ J31 m x0 w) := hr31 n31 i30 w31 h
        unfold F5_b2 at h
        refine WC_seq ?_
        refine WC_seq ?_
        refine WC_region ?_
        refine WL_val gd0 ((o_move (v := .int .i64 i30) (by exact e9_29)) _) rfl ?_
        refine WL_val gd0 ((o_move (v := .slice l_a1 l_n2 l_c3) (by exact e0_25)) _) rfl ?_
        refine WL_val gd0 ((o_len Try.underlying22 rfl) _) rfl ?_
        refine WL_val gd0 ((o_lss rfl rfl) _) rfl ?_
        refine WL_val gd0 ((o_move (v := .bool (decide (i30 < (l_n2 : Int)))) rfl) _) rfl ?_
        refine bsplit (decide (i30 < (l_n2 : Int))) (fun hb33 => ?_) (fun hb33 => ?_)
        · rw [if_pos (of_decide_eq_true hb33)] at h
          refine WL_val (gdY (b := (decide (i30 < (l_n2 : Int)))) 38 rfl rfl hb33) ((o_move (v := .bool r24) (by exact e8_28)) _) rfl ?_
          refine WL_val gd0 ((o_pickT (v := .bool r24) rfl hb33 rfl) _) rfl ?_
          refine WL_nil ?_
          refine nrm ?_
          refine WC_cond (t := r24) rfl (fun hb34 => ?_) (fun hb34 => ?_)
          · rw [if_pos hb34] at h
            refine WC_skip ?_
            refine nrm ?_
            refine WC_seq ?_
            refine WC_block ?_
            refine WC_seq ?_
            refine WC_region ?_
            refine WL_val gd0 ((o_assign (v := .int .i64 0) rfl) _) rfl ?_
            refine WL_nil ?_
            refine nrm ?_
            refine WC_block ?_
            obtain ⟨J42, ⟨n42, h0⟩, hr42⟩ := h
            refine WC_loop (fun n ρ w' => ∃ (j41 : Int), ρ 10 = .int .i64 j41 ∧ ρ 0 = .slice l_a1 l_n2 l_c3 ∧ ρ 1 = .slice ready_a4 ready_n5 ready_c6 ∧ ρ 7 = .int .i64 r23 ∧ ρ 8 = .bool r24 ∧ ρ 9 = .int .i64 i30 ∧ J42 n j41 w') ⟨n42, _, rfl, e0_25, e1_26, e7_27, e8_28, e9_29, h0⟩ ?_
            rintro n42 ρ w42 ⟨j41, e10_40, e0_35, e1_36, e7_37, e8_38, e9_39, h⟩
            have h : F5_b3 l_n2 l_a1 i30 r23 ready_a4 ready_n5 ready_c6 j41 w42 k (fun x0 w => ∃ m, m < n42 ∧ J42 m x0 w) (fun x0 w => ∃ m, m < n31 ∧ J31 m x0 w) := hr42 n42 j41 w42 h
            unfold F5_b3 at h
            refine WC_seq ?_
            refine WC_seq ?_
            refine WC_region ?_
            refine WL_val gd0 ((o_move (v := .int .i64 j41) (by exact e10_40)) _) rfl ?_
            refine WL_val gd0 ((o_move (v := .slice l_a1 l_n2 l_c3) (by exact e0_35)) _) rfl ?_
            refine WL_val gd0 ((o_len Try.underlying22 rfl) _) rfl ?_
            refine WL_val gd0 ((o_lss rfl rfl) _) rfl ?_
            refine WL_nil ?_
            refine nrm ?_
            refine WC_cond (t := (decide (j41 < (l_n2 : Int)))) rfl (fun hb44 => ?_) (fun hb44 => ?_)
            · rw [if_pos (of_decide_eq_true hb44)] at h
              refine WC_skip ?_
              refine nrm ?_
              refine WC_seq ?_
              refine WC_block ?_
              refine WC_seq ?_
              refine WC_draws [27] (.look 0 (.look 1 (.look 2 (.look 3 (.look 4 (.look 5 (.look 6 (.look 7 (.look 8 (.look 9 (.look 10 (.look 11 (.look 12 (.look 13 (.look 14 (.look 15 (.look 16 (.look 17 (.look 18 (.look 19 (.look 20 (.look 21 (.look 22 (.look 23 (.look 24 (.look 25 (.look 26 (.act 27 (.look 28 .nil))))))))))))))))))))))))))))) Try.mixed (by kernel_rfl) ?_
              refine WQ_val rfl gd0 (o_move (v := .slice l_a1 l_n2 l_c3) (by exact e0_35)) rfl ?_
              refine WQ_val rfl gd0 (o_move (v := .int .i64 i30) (by exact e9_39)) rfl ?_
              obtain ⟨p47, q48, h⟩ := h
              obtain ⟨l45, u46, h⟩ := h
              refine WQ_val rfl gd0 (o_indexAddr Try.underlying22 Try.sizeOf35 (by exact (congrArg (fun z => Value.slice z l_n2 l_c3) q48)) rfl l45 u46) rfl ?_
              refine WQ_val rfl gd0 (o_fieldAddr0 Try.underlying35 rfl Try.sizeOf3 rfl rfl rfl) rfl ?_
              obtain ⟨x49, hc50, h⟩ := h
              refine WQ_look (fun w => w.cell? (p47.add (i30.toNat * 3)) = some (.int .i64 x49)) rfl gd0 (fun w hc => (o_load Try.isAgg3 rfl hc)) hc50 rfl ?_
              refine WQ_val rfl gd0 (o_move (v := .int .i64 r23) (by exact e7_37)) rfl ?_
              refine WQ_val rfl gd0 (o_eql rfl rfl) rfl ?_
              refine WQ_val rfl gd0 (o_move (v := .bool (decide (x49 = r23))) rfl) rfl ?_
              refine bsplit (decide (x49 = r23)) (fun hb51 => ?_) (fun hb51 => ?_)
              · rw [if_pos (of_decide_eq_true hb51)] at h
                refine WQ_val rfl (gdY (b := (decide (x49 = r23))) 56 rfl rfl hb51) (o_move (v := .slice l_a1 l_n2 l_c3) (by exact e0_35)) rfl ?_
                refine WQ_val rfl (gdY (b := (decide (x49 = r23))) 56 rfl rfl hb51) (o_move (v := .int .i64 j41) (by exact e10_40)) rfl ?_
                obtain ⟨l52, u53, h⟩ := h
                refine WQ_val rfl (gdY (b := (decide (x49 = r23))) 56 rfl rfl hb51) (o_indexAddr Try.underlying22 Try.sizeOf35 (by exact (congrArg (fun z => Value.slice z l_n2 l_c3) q48)) rfl l52 u53) rfl ?_
                refine WQ_val rfl (gdY (b := (decide (x49 = r23))) 56 rfl rfl hb51) (o_fieldAddr 1 Try.underlying35 rfl Try.sizeOf3 rfl rfl rfl) rfl ?_
                obtain ⟨x54, hc55, h⟩ := h
                refine WQ_look (fun w => w.cell? ((p47.add (j41.toNat * 3)).add 1) = some (.int .i64 x54)) rfl (gdY (b := (decide (x49 = r23))) 56 rfl rfl hb51) (fun w hc => (o_load Try.isAgg3 rfl hc)) hc55 rfl ?_
                refine WQ_val rfl (gdY (b := (decide (x49 = r23))) 56 rfl rfl hb51) (o_move (v := .slice l_a1 l_n2 l_c3) (by exact e0_35)) rfl ?_
                refine WQ_val rfl (gdY (b := (decide (x49 = r23))) 56 rfl rfl hb51) (o_move (v := .int .i64 i30) (by exact e9_39)) rfl ?_
                obtain ⟨l56, u57, h⟩ := h
                refine WQ_val rfl (gdY (b := (decide (x49 = r23))) 56 rfl rfl hb51) (o_indexAddr Try.underlying22 Try.sizeOf35 (by exact (congrArg (fun z => Value.slice z l_n2 l_c3) q48)) rfl l56 u57) rfl ?_
                refine WQ_val rfl (gdY (b := (decide (x49 = r23))) 56 rfl rfl hb51) (o_fieldAddr 1 Try.underlying35 rfl Try.sizeOf3 rfl rfl rfl) rfl ?_
                obtain ⟨x58, hc59, h⟩ := h
                refine WQ_look (fun w => w.cell? ((p47.add (i30.toNat * 3)).add 1) = some (.int .i64 x58)) rfl (gdY (b := (decide (x49 = r23))) 56 rfl rfl hb51) (fun w hc => (o_load Try.isAgg3 rfl hc)) hc59 rfl ?_
                refine WQ_val rfl (gdY (b := (decide (x49 = r23))) 56 rfl rfl hb51) (o_lss rfl rfl) rfl ?_
                refine WQ_val rfl gd0 (o_pickT (v := .bool (decide (x54 < x58))) rfl hb51 rfl) rfl ?_
                refine WQ_val rfl gd0 (o_move (v := .bool (decide (x54 < x58))) rfl) rfl ?_
                refine bsplit (decide (x54 < x58)) (fun hb60 => ?_) (fun hb60 => ?_)
                · rw [if_pos (of_decide_eq_true hb60)] at h
                  refine WQ_val rfl (gdY (b := (decide (x54 < x58))) 69 rfl rfl hb60) (o_move (v := .slice ready_a4 ready_n5 ready_c6) (by exact e1_36)) rfl ?_
                  refine WQ_val rfl (gdY (b := (decide (x54 < x58))) 69 rfl rfl hb60) (o_move (v := .slice l_a1 l_n2 l_c3) (by exact e0_35)) rfl ?_
                  refine WQ_val rfl (gdY (b := (decide (x54 < x58))) 69 rfl rfl hb60) (o_move (v := .int .i64 j41) (by exact e10_40)) rfl ?_
                  obtain ⟨l61, u62, h⟩ := h
                  refine WQ_val rfl (gdY (b := (decide (x54 < x58))) 69 rfl rfl hb60) (o_indexAddr Try.underlying22 Try.sizeOf35 (by exact (congrArg (fun z => Value.slice z l_n2 l_c3) q48)) rfl l61 u62) rfl ?_
                  refine WQ_val rfl (gdY (b := (decide (x54 < x58))) 69 rfl rfl hb60) (o_fieldAddr0 Try.underlying35 rfl Try.sizeOf3 rfl rfl rfl) rfl ?_
                  obtain ⟨x63, hc64, h⟩ := h
                  refine WQ_look (fun w => w.cell? (p47.add (j41.toNat * 3)) = some (.int .i64 x63)) rfl (gdY (b := (decide (x54 < x58))) 69 rfl rfl hb60) (fun w hc => (o_load Try.isAgg3 rfl hc)) hc64 rfl ?_
                  refine WQ_call rfl (gdY (b := (decide (x54 < x58))) 69 rfl rfl hb60) (o_call Try.call12 (argCons rfl (argCons rfl argNil)) _) rfl (h.mono ?_)
                  rintro _ w65 ⟨x66, rfl, h⟩
                  refine ⟨⟨⟨⟨⟨trivial, depT (by kernel_rfl)⟩, depT (by kernel_rfl)⟩, depT (by kernel_rfl)⟩, depT (by kernel_rfl)⟩, ?_⟩
                  refine WQ_val rfl gd0 (o_pickT (v := .bool x66) rfl hb60 rfl) rfl ?_
                  refine WQ_nil ?_
                  refine nrm ?_
                  refine WC_cond (t := x66) rfl (fun hb67 => ?_) (fun hb67 => ?_)
                  · rw [if_pos hb67] at h
                    refine WC_seq ?_
                    refine WC_region ?_
                    refine WL_val gd0 ((o_assign (v := .bool false) rfl) _) rfl ?_
                    refine WL_nil ?_
                    refine nrm ?_
                    refine WC_ret ?_
                    refine rtB ?_
                    refine rtT ?_
                    refine rtT ?_
                    refine rtB ?_
                    refine rtB ?_
                    refine rtT ?_
                    refine rtT ?_
                    refine rtB ?_
                    refine rtT ?_
                    refine rtE ?_
                    exact gv1 rfl rfl h
                  · rw [if_neg (neT hb67)] at h
                    refine WC_skip ?_
                    refine nrmB ?_
                    refine nrm ?_
                    refine WC_region ?_
                    refine WL_val gd0 ((o_move (v := .int .i64 j41) (by exact e10_40)) _) rfl ?_
                    refine WL_val gd0 ((o_add rfl rfl) _) rfl ?_
                    refine WL_val gd0 ((o_assign (v := .int .i64 (IntKind.i64.wrap (j41 + 1))) rfl) _) rfl ?_
                    refine WL_nil ?_
                    refine nrm ?_
                    obtain ⟨m43, hm43, h⟩ := h
                    exact ⟨m43, hm43, _, rfl, e0_35, e1_36, e7_37, e8_38, e9_39, h⟩
                · rw [if_neg (of_decide_eq_false hb60)] at h
                  refine WQ_skip rfl (gdN (b := (decide (x54 < x58))) 69 rfl rfl hb60) rfl ?_
                  refine WQ_skip rfl (gdN (b := (decide (x54 < x58))) 69 rfl rfl hb60) rfl ?_
                  refine WQ_skip rfl (gdN (b := (decide (x54 < x58))) 69 rfl rfl hb60) rfl ?_
                  refine WQ_skip rfl (gdN (b := (decide (x54 < x58))) 69 rfl rfl hb60) rfl ?_
                  refine WQ_skip rfl (gdN (b := (decide (x54 < x58))) 69 rfl rfl hb60) rfl ?_
                  refine WQ_skip rfl (gdN (b := (decide (x54 < x58))) 69 rfl rfl hb60) rfl ?_
                  refine WQ_passAct rfl (gdN (b := (decide (x54 < x58))) 69 rfl rfl hb60) rfl (by exact ⟨⟨⟨trivial, depT (by kernel_rfl)⟩, depT (by kernel_rfl)⟩, depT (by kernel_rfl)⟩) ?_
                  refine WQ_val rfl gd0 (o_pickF (v := .bool false) rfl hb60 rfl) rfl ?_
                  refine WQ_nil ?_
                  refine nrm ?_
                  refine WC_cond (t := false) rfl (fun hx => by rw [(rfl : false = false)] at hx; cases hx) (fun _ => ?_)
                  refine WC_skip ?_
                  refine nrmB ?_
                  refine nrm ?_
                  refine WC_region ?_
                  refine WL_val gd0 ((o_move (v := .int .i64 j41) (by exact e10_40)) _) rfl ?_
                  refine WL_val gd0 ((o_add rfl rfl) _) rfl ?_
                  refine WL_val gd0 ((o_assign (v := .int .i64 (IntKind.i64.wrap (j41 + 1))) rfl) _) rfl ?_
                  refine WL_nil ?_
                  refine nrm ?_
                  obtain ⟨m43, hm43, h⟩ := h
                  exact ⟨m43, hm43, _, rfl, e0_35, e1_36, e7_37, e8_38, e9_39, h⟩
              · rw [if_neg (of_decide_eq_false hb51)] at h
                refine WQ_skip rfl (gdN (b := (decide (x49 = r23))) 56 rfl rfl hb51) rfl ?_
                refine WQ_skip rfl (gdN (b := (decide (x49 = r23))) 56 rfl rfl hb51) rfl ?_
                refine WQ_skip rfl (gdN (b := (decide (x49 = r23))) 56 rfl rfl hb51) rfl ?_
                refine WQ_skip rfl (gdN (b := (decide (x49 = r23))) 56 rfl rfl hb51) rfl ?_
                refine WQ_skip rfl (gdN (b := (decide (x49 = r23))) 56 rfl rfl hb51) rfl ?_
                refine WQ_skip rfl (gdN (b := (decide (x49 = r23))) 56 rfl rfl hb51) rfl ?_
                refine WQ_skip rfl (gdN (b := (decide (x49 = r23))) 56 rfl rfl hb51) rfl ?_
                refine WQ_skip rfl (gdN (b := (decide (x49 = r23))) 56 rfl rfl hb51) rfl ?_
                refine WQ_skip rfl (gdN (b := (decide (x49 = r23))) 56 rfl rfl hb51) rfl ?_
                refine WQ_skip rfl (gdN (b := (decide (x49 = r23))) 56 rfl rfl hb51) rfl ?_
                refine WQ_skip rfl (gdN (b := (decide (x49 = r23))) 56 rfl rfl hb51) rfl ?_
                refine WQ_val rfl gd0 (o_pickF (v := .bool false) rfl hb51 rfl) rfl ?_
                refine WQ_val rfl gd0 (o_move (v := .bool false) rfl) rfl ?_
                refine WQ_skip rfl (gdN (b := false) 69 rfl rfl rfl) rfl ?_
                refine WQ_skip rfl (gdN (b := false) 69 rfl rfl rfl) rfl ?_
                refine WQ_skip rfl (gdN (b := false) 69 rfl rfl rfl) rfl ?_
                refine WQ_skip rfl (gdN (b := false) 69 rfl rfl rfl) rfl ?_
                refine WQ_skip rfl (gdN (b := false) 69 rfl rfl rfl) rfl ?_
                refine WQ_skip rfl (gdN (b := false) 69 rfl rfl rfl) rfl ?_
                refine WQ_passAct rfl (gdN (b := false) 69 rfl rfl rfl) rfl (by exact ⟨trivial, depT (by kernel_rfl)⟩) ?_
                refine WQ_val rfl gd0 (o_pickF (v := .bool false) rfl rfl rfl) rfl ?_
                refine WQ_nil ?_
                refine nrm ?_
                refine WC_cond (t := false) rfl (fun hx => by rw [(rfl : false = false)] at hx; cases hx) (fun _ => ?_)
                refine WC_skip ?_
                refine nrmB ?_
                refine nrm ?_
                refine WC_region ?_
                refine WL_val gd0 ((o_move (v := .int .i64 j41) (by exact e10_40)) _) rfl ?_
                refine WL_val gd0 ((o_add rfl rfl) _) rfl ?_
                refine WL_val gd0 ((o_assign (v := .int .i64 (IntKind.i64.wrap (j41 + 1))) rfl) _) rfl ?_
                refine WL_nil ?_
                refine nrm ?_
                obtain ⟨m43, hm43, h⟩ := h
                exact ⟨m43, hm43, _, rfl, e0_35, e1_36, e7_37, e8_38, e9_39, h⟩
            · rw [if_neg (of_decide_eq_false hb44)] at h
              refine WC_exit ?_
              refine exT ?_
              refine exT ?_
              refine exB ?_
              refine nrmB ?_
              refine nrm ?_
              refine WC_region ?_
              refine WL_val gd0 ((o_move (v := .int .i64 i30) (by exact e9_39)) _) rfl ?_
              refine WL_val gd0 ((o_add rfl rfl) _) rfl ?_
              refine WL_val gd0 ((o_assign (v := .int .i64 (IntKind.i64.wrap (i30 + 1))) rfl) _) rfl ?_
              refine WL_nil ?_
              refine nrm ?_
              obtain ⟨m32, hm32, h⟩ := h
              exact ⟨m32, hm32, _, rfl, e0_35, e1_36, e7_37, e8_38, h⟩
          · rw [if_neg (neT hb34)] at h
            refine WC_exit ?_
            refine exT ?_
            refine exT ?_
            refine exB ?_
            refine nrm ?_
            refine WC_seq ?_
            refine WC_region ?_
            refine WL_val gd0 ((o_move (v := .bool r24) (by exact e8_28)) _) rfl ?_
            refine WL_val gd0 ((o_not rfl) _) rfl ?_
            refine WL_val gd0 ((o_move (v := .bool (!r24)) rfl) _) rfl ?_
            refine bsplit (!r24) (fun hb68 => ?_) (fun hb68 => ?_)
            · rw [if_pos hb68] at h
              refine WL_skip (gdN (b := (!r24)) 80 rfl rfl hb68) rfl ?_
              refine WL_skip (gdN (b := (!r24)) 80 rfl rfl hb68) rfl ?_
              refine WL_skip (gdN (b := (!r24)) 80 rfl rfl hb68) rfl ?_
              refine WL_val gd0 ((o_pickT (v := .bool true) rfl hb68 rfl) _) rfl ?_
              refine WL_val gd0 ((o_move (v := .bool true) rfl) _) rfl ?_
              refine WL_call (gdY (b := true) 85 rfl rfl rfl) (o_call Try.call7 argNil _) rfl (h.mono ?_)
              rintro _ w69 ⟨x70, rfl, h⟩
              refine WL_val gd0 ((o_pickT (v := .bool x70) rfl rfl rfl) _) rfl ?_
              refine WL_val gd0 ((o_assign (v := .bool x70) rfl) _) rfl ?_
              refine WL_nil ?_
              refine nrm ?_
              refine WC_ret ?_
              refine rtE ?_
              exact gv1 rfl rfl h
            · rw [if_neg (neT hb68)] at h
              refine WL_val (gdY (b := (!r24)) 80 rfl rfl hb68) ((o_move (v := .slice ready_a4 ready_n5 ready_c6) (by exact e1_26)) _) rfl ?_
              refine WL_val (gdY (b := (!r24)) 80 rfl rfl hb68) ((o_move (v := .int .i64 r23) (by exact e7_27)) _) rfl ?_
              refine WL_call (gdY (b := (!r24)) 80 rfl rfl hb68) (o_call Try.call12 (argCons rfl (argCons rfl argNil)) _) rfl (h.mono ?_)
              rintro _ w71 ⟨x72, rfl, h⟩
              refine WL_val gd0 ((o_pickF (v := .bool x72) rfl hb68 rfl) _) rfl ?_
              refine WL_val gd0 ((o_move (v := .bool x72) rfl) _) rfl ?_
              refine bsplit x72 (fun hb73 => ?_) (fun hb73 => ?_)
              · rw [if_pos hb73] at h
                refine WL_call (gdY (b := x72) 85 rfl rfl hb73) (o_call Try.call7 argNil _) rfl (h.mono ?_)
                rintro _ w74 ⟨x75, rfl, h⟩
                refine WL_val gd0 ((o_pickT (v := .bool x75) rfl hb73 rfl) _) rfl ?_
                refine WL_val gd0 ((o_assign (v := .bool x75) rfl) _) rfl ?_
                refine WL_nil ?_
                refine nrm ?_
                refine WC_ret ?_
                refine rtE ?_
                exact gv1 rfl rfl h
              · rw [if_neg (neT hb73)] at h
                refine WL_skip (gdN (b := x72) 85 rfl rfl hb73) rfl ?_
                refine WL_val gd0 ((o_pickF (v := .bool false) rfl hb73 rfl) _) rfl ?_
                refine WL_val gd0 ((o_assign (v := .bool false) rfl) _) rfl ?_
                refine WL_nil ?_
                refine nrm ?_
                refine WC_ret ?_
                refine rtE ?_
                exact gv1 rfl rfl h
        · rw [if_neg (of_decide_eq_false hb33)] at h
          refine WL_skip (gdN (b := (decide (i30 < (l_n2 : Int)))) 38 rfl rfl hb33) rfl ?_
          refine WL_val gd0 ((o_pickF (v := .bool false) rfl hb33 rfl) _) rfl ?_
          refine WL_nil ?_
          refine nrm ?_
          refine WC_cond (t := false) rfl (fun hx => by rw [(rfl : false = false)] at hx; cases hx) (fun _ => ?_)
          refine WC_exit ?_
          refine exT ?_
          refine exT ?_
          refine exB ?_
          refine nrm ?_
          refine WC_seq ?_
          refine WC_region ?_
          refine WL_val gd0 ((o_move (v := .bool r24) (by exact e8_28)) _) rfl ?_
          refine WL_val gd0 ((o_not rfl) _) rfl ?_
          refine WL_val gd0 ((o_move (v := .bool (!r24)) rfl) _) rfl ?_
          refine bsplit (!r24) (fun hb76 => ?_) (fun hb76 => ?_)
          · rw [if_pos hb76] at h
            refine WL_skip (gdN (b := (!r24)) 80 rfl rfl hb76) rfl ?_
            refine WL_skip (gdN (b := (!r24)) 80 rfl rfl hb76) rfl ?_
            refine WL_skip (gdN (b := (!r24)) 80 rfl rfl hb76) rfl ?_
            refine WL_val gd0 ((o_pickT (v := .bool true) rfl hb76 rfl) _) rfl ?_
            refine WL_val gd0 ((o_move (v := .bool true) rfl) _) rfl ?_
            refine WL_call (gdY (b := true) 85 rfl rfl rfl) (o_call Try.call7 argNil _) rfl (h.mono ?_)
            rintro _ w77 ⟨x78, rfl, h⟩
            refine WL_val gd0 ((o_pickT (v := .bool x78) rfl rfl rfl) _) rfl ?_
            refine WL_val gd0 ((o_assign (v := .bool x78) rfl) _) rfl ?_
            refine WL_nil ?_
            refine nrm ?_
            refine WC_ret ?_
            refine rtE ?_
            exact gv1 rfl rfl h
          · rw [if_neg (neT hb76)] at h
            refine WL_val (gdY (b := (!r24)) 80 rfl rfl hb76) ((o_move (v := .slice ready_a4 ready_n5 ready_c6) (by exact e1_26)) _) rfl ?_
            refine WL_val (gdY (b := (!r24)) 80 rfl rfl hb76) ((o_move (v := .int .i64 r23) (by exact e7_27)) _) rfl ?_
            refine WL_call (gdY (b := (!r24)) 80 rfl rfl hb76) (o_call Try.call12 (argCons rfl (argCons rfl argNil)) _) rfl (h.mono ?_)
            rintro _ w79 ⟨x80, rfl, h⟩
            refine WL_val gd0 ((o_pickF (v := .bool x80) rfl hb76 rfl) _) rfl ?_
            refine WL_val gd0 ((o_move (v := .bool x80) rfl) _) rfl ?_
            refine bsplit x80 (fun hb81 => ?_) (fun hb81 => ?_)
            · rw [if_pos hb81] at h
              refine WL_call (gdY (b := x80) 85 rfl rfl hb81) (o_call Try.call7 argNil _) rfl (h.mono ?_)
              rintro _ w82 ⟨x83, rfl, h⟩
              refine WL_val gd0 ((o_pickT (v := .bool x83) rfl hb81 rfl) _) rfl ?_
              refine WL_val gd0 ((o_assign (v := .bool x83) rfl) _) rfl ?_
              refine WL_nil ?_
              refine nrm ?_
              refine WC_ret ?_
              refine rtE ?_
              exact gv1 rfl rfl h
            · rw [if_neg (neT hb81)] at h
              refine WL_skip (gdN (b := x80) 85 rfl rfl hb81) rfl ?_
              refine WL_val gd0 ((o_pickF (v := .bool false) rfl hb81 rfl) _) rfl ?_
              refine WL_val gd0 ((o_assign (v := .bool false) rfl) _) rfl ?_
              refine WL_nil ?_
              refine nrm ?_
              refine WC_ret ?_
              refine rtE ?_
              exact gv1 rfl rfl h

def F6_b4 (p30 : Addr) (m60 : Option Addr) (id147 : Int) (w148 : World) (k : Value → World → Prop) (nx148 : Int → World → Prop) : Prop :=
  if id147 < 9 then
  ∃ (x_a151 : Option Addr) (x_n152 x_c153 : Nat) (x_a154 : Option Addr) (x_n155 x_c156 : Nat) (x_a157 : Option Addr) (x_n158 x_c159 : Nat), Cells w148.drew p30 0 [.slice x_a151 x_n152 x_c153, .slice x_a154 x_n155 x_c156, .slice x_a157 x_n158 x_c159] ∧ Does Try.prog 11 #[.pointer m60, .int .i64 id147] w148.drew (fun v w161 => ∃ (x162 : Int), v = .int .i64 x162 ∧ Cells w161 p30 0 [.slice x_a151 x_n152 x_c153, .slice x_a154 x_n155 x_c156, .slice x_a157 x_n158 x_c159] ∧ Does Try.prog 15 #[.agg #[.slice x_a151 x_n152 x_c153, .slice x_a154 x_n155 x_c156, .slice x_a157 x_n158 x_c159], .int .i64 id147] w161 (fun v w164 => ∃ (x165 : Int), v = .int .i64 x165 ∧ if x162 ≠ x165 then
    k (.bool false) w164
  else
    nx148 (IntKind.i64.wrap (id147 + 1)) w164))
else
  Does Try.prog 7 #[] w148 (fun v w167 => ∃ (t168 : Bool), v = .bool t168 ∧ k (.bool t168) w167)
def F6_b3 (ready_n5 : Nat) (ready_a4 : Option Addr) (p30 : Addr) (m60 : Option Addr) (i63 : Int) (w64 : World) (k : Value → World → Prop) (nx64 : Option Addr → Int → World → Prop) : Prop :=
  if i63 < (ready_n5 : Int) then
  ∃ (p69 : Addr), ready_a4 = some p69 ∧ (0 : Int) ≤ i63 ∧ i63 < (ready_n5 : Int) ∧ ∃ (x_a71 : Option Addr) (x_n72 x_c73 : Nat), w64.cell? (p69.add i63.toNat) = some (.slice x_a71 x_n72 x_c73) ∧ if 50 < (x_n72 : Int) then
    Does Try.prog 7 #[] w64 (fun v w76 => ∃ (t77 : Bool), v = .bool t77 ∧ k (.bool t77) w76)
  else
    (0 : Int) ≤ i63 ∧ i63 < (ready_n5 : Int) ∧ ∃ (x_a80 : Option Addr) (x_n81 x_c82 : Nat), w64.cell? (p69.add i63.toNat) = some (.slice x_a80 x_n81 x_c82) ∧ Does Try.prog 10 #[.pointer m60, .slice x_a80 x_n81 x_c82] w64 (fun v w84 => ∃ (r85 : Int) (r86 : Bool), v = .tuple #[.int .i64 r85, .bool r86] ∧ (0 : Int) ≤ i63 ∧ i63 < (ready_n5 : Int) ∧ ∃ (x_a89 : Option Addr) (x_n90 x_c91 : Nat), w84.cell? (p69.add i63.toNat) = some (.slice x_a89 x_n90 x_c91) ∧ Does Try.prog 14 #[.pointer (some p30), .slice x_a89 x_n90 x_c91] w84 (fun v w93 => ∃ (k94 : Int), v = .int .i64 k94 ∧ if (!(r86 == (decide (0 ≤ k94)))) = true then
      k (.bool false) w93
    else
      if r86 = true then
        ∃ (x_a97 : Option Addr) (x_n98 x_c99 : Nat), w93.cell? p30 = some (.slice x_a97 x_n98 x_c99) ∧ ∃ (p103 : Addr), x_a97 = some p103 ∧ (0 : Int) ≤ k94 ∧ k94 < (x_n98 : Int) ∧ ∃ (x105 : Int), w93.cell? (p103.add (k94.toNat * 3)) = some (.int .i64 x105) ∧ if r85 ≠ x105 then
          k (.bool false) w93
        else
          if (!r86) = true then
            if r85 ≠ 0 then
              k (.bool false) w93
            else
              if (Int.tmod i63 7) = 3 then
                Does Try.prog 13 #[.pointer m60] w93 (fun v w111 => ∃ (c112 : Option Addr), v = .pointer c112 ∧ New w111 3 [.int .i64 0, .int .i64 1, .int .i64 2, .int .i64 3, .int .i64 4, .int .i64 5, .int .i64 6, .int .i64 7] (fun p113 w114 => Does Try.prog 10 #[.pointer m60, .slice (some p113) 8 8] w114 (fun v w115 => ∃ (r116 : Int) (r117 : Bool), v = .tuple #[.int .i64 r116, .bool r117] ∧ nx64 c112 (IntKind.i64.wrap (i63 + 1)) w115)))
              else
                nx64 m60 (IntKind.i64.wrap (i63 + 1)) w93
          else
            if (Int.tmod i63 7) = 3 then
              Does Try.prog 13 #[.pointer m60] w93 (fun v w119 => ∃ (c120 : Option Addr), v = .pointer c120 ∧ New w119 3 [.int .i64 0, .int .i64 1, .int .i64 2, .int .i64 3, .int .i64 4, .int .i64 5, .int .i64 6, .int .i64 7] (fun p121 w122 => Does Try.prog 10 #[.pointer m60, .slice (some p121) 8 8] w122 (fun v w123 => ∃ (r124 : Int) (r125 : Bool), v = .tuple #[.int .i64 r124, .bool r125] ∧ nx64 c120 (IntKind.i64.wrap (i63 + 1)) w123)))
            else
              nx64 m60 (IntKind.i64.wrap (i63 + 1)) w93
      else
        if (!r86) = true then
          if r85 ≠ 0 then
            k (.bool false) w93
          else
            if (Int.tmod i63 7) = 3 then
              Does Try.prog 13 #[.pointer m60] w93 (fun v w129 => ∃ (c130 : Option Addr), v = .pointer c130 ∧ New w129 3 [.int .i64 0, .int .i64 1, .int .i64 2, .int .i64 3, .int .i64 4, .int .i64 5, .int .i64 6, .int .i64 7] (fun p131 w132 => Does Try.prog 10 #[.pointer m60, .slice (some p131) 8 8] w132 (fun v w133 => ∃ (r134 : Int) (r135 : Bool), v = .tuple #[.int .i64 r134, .bool r135] ∧ nx64 c130 (IntKind.i64.wrap (i63 + 1)) w133)))
            else
              nx64 m60 (IntKind.i64.wrap (i63 + 1)) w93
        else
          if (Int.tmod i63 7) = 3 then
            Does Try.prog 13 #[.pointer m60] w93 (fun v w137 => ∃ (c138 : Option Addr), v = .pointer c138 ∧ New w137 3 [.int .i64 0, .int .i64 1, .int .i64 2, .int .i64 3, .int .i64 4, .int .i64 5, .int .i64 6, .int .i64 7] (fun p139 w140 => Does Try.prog 10 #[.pointer m60, .slice (some p139) 8 8] w140 (fun v w141 => ∃ (r142 : Int) (r143 : Bool), v = .tuple #[.int .i64 r142, .bool r143] ∧ nx64 c138 (IntKind.i64.wrap (i63 + 1)) w141)))
          else
            nx64 m60 (IntKind.i64.wrap (i63 + 1)) w93))
else
  LoopP (fun (s : Int) w' nx' => F6_b4 p30 m60 s w' k (fun x0 w => nx' x0 w)) (-1) w64
def F6_j2 (r17 : Option Addr) (r18 : Int) (r29 : Int) (ready_n5 : Nat) (ready_a4 : Option Addr) (p30 : Addr) (t40 : Bool) (w41 : World) (k : Value → World → Prop) : Prop :=
  if t40 = true then
  New w41 3 [.int .i64 0] (fun p43 w44 => Does Try.prog 10 #[.pointer r17, .slice (some p43) 1 1] w44 (fun v w45 => ∃ (r46 : Int) (r47 : Bool), v = .tuple #[.int .i64 r46, .bool r47] ∧ if r18 = r29 then
    if (!r47) = true then
      Does Try.prog 11 #[.pointer r17, .int .i64 0] w45 (fun v w50 => ∃ (x51 : Int), v = .int .i64 x51 ∧ if x51 = 0 then
        Does Try.prog 13 #[.pointer r17] w50 (fun v w53 => ∃ (x54 : Option Addr), v = .pointer x54 ∧ if (x54).isNone = true then
          Does Try.prog 7 #[] w53 (fun v w56 => ∃ (x57 : Bool), v = .bool x57 ∧ k (.bool x57) w56)
        else
          k (.bool false) w53)
      else
        k (.bool false) w50)
    else
      k (.bool false) w45
  else
    k (.bool false) w45))
else
  LoopP (fun (s : Option Addr × Int) w' nx' => F6_b3 ready_n5 ready_a4 p30 (s.1) (s.2) w' k (fun x0 x1 w => nx' (x0, x1) w)) (r17, 0) w41
def F6_j1 (l_a1 : Option Addr) (l_n2 : Nat) (l_c3 : Nat) (ready_n5 : Nat) (ready_a4 : Option Addr) (t11 : Bool) (w12 : World) (k : Value → World → Prop) : Prop :=
  if t11 = true then
  Does Try.prog 7 #[] w12 (fun v w14 => ∃ (t15 : Bool), v = .bool t15 ∧ k (.bool t15) w14)
else
  Does Try.prog 8 #[.slice l_a1 l_n2 l_c3] w12 (fun v w16 => ∃ (r17 : Option Addr) (r18 : Int), v = .tuple #[.pointer r17, .int .i64 r18] ∧ Does Try.prog 9 #[.slice l_a1 l_n2 l_c3] w16 (fun v w19 => ∃ (r_a20 : Option Addr) (r_n21 r_c22 : Nat) (r_a23 : Option Addr) (r_n24 r_c25 : Nat) (r_a26 : Option Addr) (r_n27 r_c28 : Nat) (r29 : Int), v = .tuple #[.agg #[.slice r_a20 r_n21 r_c22, .slice r_a23 r_n24 r_c25, .slice r_a26 r_n27 r_c28], .int .i64 r29] ∧ New w19 30 [.slice none 0 0, .slice none 0 0, .slice none 0 0] (fun p30 w31 => PutAll w31 p30 [.slice r_a20 r_n21 r_c22, .slice r_a23 r_n24 r_c25, .slice r_a26 r_n27 r_c28] (fun w32 => if r18 ≠ 0 then
    F6_j2 r17 r18 r29 ready_n5 ready_a4 p30 true w32 k
  else
    F6_j2 r17 r18 r29 ready_n5 ready_a4 p30 (decide (r29 ≠ 0)) w32 k))))
/-- spacecraft spacecraftlaw22.MuxSelects -/
def F6 (l_a1 : Option Addr) (l_n2 : Nat) (l_c3 : Nat) (ready_a4 : Option Addr) (ready_n5 : Nat) (ready_c6 : Nat) (w7 : World) (k : Value → World → Prop) : Prop :=
  if 30 < (l_n2 : Int) then
  F6_j1 l_a1 l_n2 l_c3 ready_n5 ready_a4 true w7 k
else
  F6_j1 l_a1 l_n2 l_c3 ready_n5 ready_a4 (decide (100 < (ready_n5 : Int))) w7 k
set_option maxRecDepth 100000 in
set_option maxHeartbeats 2000000 in
theorem w6 (l_a1 : Option Addr) (l_n2 : Nat) (l_c3 : Nat) (ready_a4 : Option Addr) (ready_n5 : Nat) (ready_c6 : Nat) (w7 : World) (k : Value → World → Prop) (h : F6 l_a1 l_n2 l_c3 ready_a4 ready_n5 ready_c6 w7 k) : Does Try.prog 6 #[.slice l_a1 l_n2 l_c3, .slice ready_a4 ready_n5 ready_c6] w7 k := by
  refine enter 141 Try.func6 rfl rfl rfl ?_
  intro ρ hρ
  have e0 := hρ 0 _ rfl
  have e1 := hρ 1 _ rfl
  unfold F6 at h
  refine WC_seq ?_
  refine WC_region ?_
  refine WL_val gd0 ((o_assign (v := .bool false) rfl) _) rfl ?_
  refine WL_nil ?_
  refine nrm ?_
  refine WC_seq ?_
  refine WC_cut (fun ρ w' => ∃ (t11 : Bool), ρ 24 = .bool t11 ∧ ρ 0 = .slice l_a1 l_n2 l_c3 ∧ ρ 1 = .slice ready_a4 ready_n5 ready_c6 ∧ F6_j1 l_a1 l_n2 l_c3 ready_n5 ready_a4 t11 w' k) ?_ ?_
  · refine WC_region ?_
    refine WL_val gd0 ((o_move (v := .slice l_a1 l_n2 l_c3) (by exact e0)) _) rfl ?_
    refine WL_val gd0 ((o_len Try.underlying22 rfl) _) rfl ?_
    refine WL_val gd0 ((o_gtr rfl rfl) _) rfl ?_
    refine WL_val gd0 ((o_move (v := .bool (decide (30 < (l_n2 : Int)))) rfl) _) rfl ?_
    refine bsplit (decide (30 < (l_n2 : Int))) (fun hb170 => ?_) (fun hb170 => ?_)
    · rw [if_pos (of_decide_eq_true hb170)] at h
      refine WL_skip (gdN (b := (decide (30 < (l_n2 : Int)))) 20 rfl rfl hb170) rfl ?_
      refine WL_skip (gdN (b := (decide (30 < (l_n2 : Int)))) 20 rfl rfl hb170) rfl ?_
      refine WL_skip (gdN (b := (decide (30 < (l_n2 : Int)))) 20 rfl rfl hb170) rfl ?_
      refine WL_val gd0 ((o_pickT (v := .bool true) rfl hb170 rfl) _) rfl ?_
      refine WL_nil ?_
      refine nrm ?_
      exact ⟨_, rfl, e0, e1, h⟩
    · rw [if_neg (of_decide_eq_false hb170)] at h
      refine WL_val (gdY (b := (decide (30 < (l_n2 : Int)))) 20 rfl rfl hb170) ((o_move (v := .slice ready_a4 ready_n5 ready_c6) (by exact e1)) _) rfl ?_
      refine WL_val (gdY (b := (decide (30 < (l_n2 : Int)))) 20 rfl rfl hb170) ((o_len Try.underlying42 rfl) _) rfl ?_
      refine WL_val (gdY (b := (decide (30 < (l_n2 : Int)))) 20 rfl rfl hb170) ((o_gtr rfl rfl) _) rfl ?_
      refine WL_val gd0 ((o_pickF (v := .bool (decide (100 < (ready_n5 : Int)))) rfl hb170 rfl) _) rfl ?_
      refine WL_nil ?_
      refine nrm ?_
      exact ⟨_, rfl, e0, e1, h⟩
  · rintro ρ w12 ⟨t11, e24_10, e0_8, e1_9, h⟩
    unfold F6_j1 at h
    refine WC_cond (t := t11) (by exact e24_10) (fun hb13 => ?_) (fun hb13 => ?_)
    · rw [if_pos hb13] at h
      refine WC_seq ?_
      refine WC_region ?_
      refine WL_call gd0 (o_call Try.call7 argNil _) rfl (h.mono ?_)
      rintro _ w14 ⟨t15, rfl, h⟩
      refine WL_val gd0 ((o_assign (v := .bool t15) rfl) _) rfl ?_
      refine WL_nil ?_
      refine nrm ?_
      refine WC_ret ?_
      refine rtT ?_
      refine rtE ?_
      exact gv1 rfl rfl h
    · rw [if_neg (neT hb13)] at h
      refine WC_skip ?_
      refine nrm ?_
      refine WC_seq ?_
      refine WC_region ?_
      refine WL_val gd0 ((o_move (v := .slice l_a1 l_n2 l_c3) (by exact e0_8)) _) rfl ?_
      refine WL_call gd0 (o_call Try.call8 (argCons rfl argNil) _) rfl (h.mono ?_)
      rintro _ w16 ⟨r17, r18, rfl, h⟩
      refine WL_val gd0 ((o_move (v := .tuple #[.pointer r17, .int .i64 r18]) rfl) _) rfl ?_
      refine WL_val gd0 ((o_extract (vs := [.pointer r17, .int .i64 r18]) (r := .pointer r17) rfl rfl) _) rfl ?_
      refine WL_val gd0 ((o_extract (vs := [.pointer r17, .int .i64 r18]) (r := .int .i64 r18) rfl rfl) _) rfl ?_
      refine WL_val gd0 ((o_assign (v := .pointer r17) rfl) _) rfl ?_
      refine WL_val gd0 ((o_assign (v := .int .i64 r18) rfl) _) rfl ?_
      refine WL_nil ?_
      refine nrm ?_
      refine WC_seq ?_
      refine WC_region ?_
      refine WL_val gd0 ((o_move (v := .slice l_a1 l_n2 l_c3) (by exact e0_8)) _) rfl ?_
      refine WL_call gd0 (o_call Try.call9 (argCons rfl argNil) _) rfl (h.mono ?_)
      rintro _ w19 ⟨r_a20, r_n21, r_c22, r_a23, r_n24, r_c25, r_a26, r_n27, r_c28, r29, rfl, h⟩
      refine WL_val gd0 ((o_move (v := .tuple #[.agg #[.slice r_a20 r_n21 r_c22, .slice r_a23 r_n24 r_c25, .slice r_a26 r_n27 r_c28], .int .i64 r29]) rfl) _) rfl ?_
      refine WL_val gd0 ((o_extract (vs := [.agg #[.slice r_a20 r_n21 r_c22, .slice r_a23 r_n24 r_c25, .slice r_a26 r_n27 r_c28], .int .i64 r29]) (r := .agg #[.slice r_a20 r_n21 r_c22, .slice r_a23 r_n24 r_c25, .slice r_a26 r_n27 r_c28]) rfl rfl) _) rfl ?_
      refine WL_val gd0 ((o_extract (vs := [.agg #[.slice r_a20 r_n21 r_c22, .slice r_a23 r_n24 r_c25, .slice r_a26 r_n27 r_c28], .int .i64 r29]) (r := .int .i64 r29) rfl rfl) _) rfl ?_
      have h := New.out h
      refine WL_val gd0 (o_alloc (z := .agg #[.slice none 0 0, .slice none 0 0, .slice none 0 0]) (cs := [.slice none 0 0, .slice none 0 0, .slice none 0 0]) Try.zeroValue30 rfl) rfl ?_
      generalize hp30 : fresh w19 = p30 at h ⊢
      generalize hw31 : push w19 30 [.slice none 0 0, .slice none 0 0, .slice none 0 0] = w31 at h ⊢
      try dsimp only at h
      obtain ⟨c33, h⟩ := h
      refine WL_act gd0 (o_storeAgg (vs := [.slice r_a20 r_n21 r_c22, .slice r_a23 r_n24 r_c25, .slice r_a26 r_n27 r_c28]) Try.sizeOf30 rfl rfl rfl c33) ?_
      generalize hw32 : setAll w31 p30 0 [.slice r_a20 r_n21 r_c22, .slice r_a23 r_n24 r_c25, .slice r_a26 r_n27 r_c28] = w32 at h ⊢
      try dsimp only at h
      refine WL_val gd0 ((o_assign (v := .int .i64 r29) rfl) _) rfl ?_
      refine WL_nil ?_
      refine nrm ?_
      refine WC_seq ?_
      refine WC_cut (fun ρ w' => ∃ (t40 : Bool), ρ 41 = .bool t40 ∧ ρ 1 = .slice ready_a4 ready_n5 ready_c6 ∧ ρ 5 = .pointer r17 ∧ ρ 6 = .int .i64 r18 ∧ ρ 7 = .pointer (some p30) ∧ ρ 8 = .int .i64 r29 ∧ F6_j2 r17 r18 r29 ready_n5 ready_a4 p30 t40 w' k) ?_ ?_
      · refine WC_region ?_
        refine WL_val gd0 ((o_move (v := .int .i64 r18) rfl) _) rfl ?_
        refine WL_val gd0 ((o_neq rfl rfl) _) rfl ?_
        refine WL_val gd0 ((o_move (v := .bool (decide (r18 ≠ 0))) rfl) _) rfl ?_
        refine bsplit (decide (r18 ≠ 0)) (fun hb169 => ?_) (fun hb169 => ?_)
        · rw [if_pos (of_decide_eq_true hb169)] at h
          refine WL_skip (gdN (b := (decide (r18 ≠ 0))) 38 rfl rfl hb169) rfl ?_
          refine WL_skip (gdN (b := (decide (r18 ≠ 0))) 38 rfl rfl hb169) rfl ?_
          refine WL_val gd0 ((o_pickT (v := .bool true) rfl hb169 rfl) _) rfl ?_
          refine WL_nil ?_
          refine nrm ?_
          exact ⟨_, rfl, e1_9, rfl, rfl, rfl, rfl, h⟩
        · rw [if_neg (of_decide_eq_false hb169)] at h
          refine WL_val (gdY (b := (decide (r18 ≠ 0))) 38 rfl rfl hb169) ((o_move (v := .int .i64 r29) rfl) _) rfl ?_
          refine WL_val (gdY (b := (decide (r18 ≠ 0))) 38 rfl rfl hb169) ((o_neq rfl rfl) _) rfl ?_
          refine WL_val gd0 ((o_pickF (v := .bool (decide (r29 ≠ 0))) rfl hb169 rfl) _) rfl ?_
          refine WL_nil ?_
          refine nrm ?_
          exact ⟨_, rfl, e1_9, rfl, rfl, rfl, rfl, h⟩
      · rintro ρ w41 ⟨t40, e41_39, e1_34, e5_35, e6_36, e7_37, e8_38, h⟩
        unfold F6_j2 at h
        refine WC_cond (t := t40) (by exact e41_39) (fun hb42 => ?_) (fun hb42 => ?_)
        · rw [if_pos hb42] at h
          refine WC_seq ?_
          refine WC_region ?_
          refine WL_val gd0 ((o_move (v := .pointer r17) (by exact e5_35)) _) rfl ?_
          have h := New.out h
          refine WL_val gd0 (o_buildSlice (e := 3) (ps := [(0, .int .i64 0)]) (cs := [.int .i64 0]) (partCons rfl partNil) (fun w => by kernel_rfl)) rfl ?_
          generalize hp43 : fresh w41 = p43 at h ⊢
          generalize hw44 : push w41 3 [.int .i64 0] = w44 at h ⊢
          try dsimp only at h
          refine WL_call gd0 (o_call Try.call10 (argCons rfl (argCons rfl argNil)) _) rfl (h.mono ?_)
          rintro _ w45 ⟨r46, r47, rfl, h⟩
          refine WL_val gd0 ((o_move (v := .tuple #[.int .i64 r46, .bool r47]) rfl) _) rfl ?_
          refine WL_val gd0 ((o_extract (vs := [.int .i64 r46, .bool r47]) (r := .int .i64 r46) rfl rfl) _) rfl ?_
          refine WL_val gd0 ((o_extract (vs := [.int .i64 r46, .bool r47]) (r := .bool r47) rfl rfl) _) rfl ?_
          refine WL_val gd0 ((o_assign (v := .int .i64 r46) rfl) _) rfl ?_
          refine WL_val gd0 ((o_assign (v := .bool r47) rfl) _) rfl ?_
          refine WL_nil ?_
          refine nrm ?_
          refine WC_seq ?_
          refine WC_region ?_
          refine WL_val gd0 ((o_move (v := .int .i64 r18) (by exact e6_36)) _) rfl ?_
          refine WL_val gd0 ((o_move (v := .int .i64 r29) (by exact e8_38)) _) rfl ?_
          refine WL_val gd0 ((o_eql rfl rfl) _) rfl ?_
          refine WL_val gd0 ((o_move (v := .bool (decide (r18 = r29))) rfl) _) rfl ?_
          refine bsplit (decide (r18 = r29)) (fun hb48 => ?_) (fun hb48 => ?_)
          · rw [if_pos (of_decide_eq_true hb48)] at h
            refine WL_val (gdY (b := (decide (r18 = r29))) 51 rfl rfl hb48) ((o_move (v := .bool r47) rfl) _) rfl ?_
            refine WL_val (gdY (b := (decide (r18 = r29))) 51 rfl rfl hb48) ((o_not rfl) _) rfl ?_
            refine WL_val gd0 ((o_pickT (v := .bool (!r47)) rfl hb48 rfl) _) rfl ?_
            refine WL_val gd0 ((o_move (v := .bool (!r47)) rfl) _) rfl ?_
            refine bsplit (!r47) (fun hb49 => ?_) (fun hb49 => ?_)
            · rw [if_pos hb49] at h
              refine WL_val (gdY (b := (!r47)) 55 rfl rfl hb49) ((o_move (v := .pointer r17) (by exact e5_35)) _) rfl ?_
              refine WL_call (gdY (b := (!r47)) 55 rfl rfl hb49) (o_call Try.call11 (argCons rfl (argCons rfl argNil)) _) rfl (h.mono ?_)
              rintro _ w50 ⟨x51, rfl, h⟩
              refine WL_val (gdY (b := (!r47)) 55 rfl rfl hb49) ((o_eql rfl rfl) _) rfl ?_
              refine WL_val gd0 ((o_pickT (v := .bool (decide (x51 = 0))) rfl hb49 rfl) _) rfl ?_
              refine WL_val gd0 ((o_move (v := .bool (decide (x51 = 0))) rfl) _) rfl ?_
              refine bsplit (decide (x51 = 0)) (fun hb52 => ?_) (fun hb52 => ?_)
              · rw [if_pos (of_decide_eq_true hb52)] at h
                refine WL_val (gdY (b := (decide (x51 = 0))) 60 rfl rfl hb52) ((o_move (v := .pointer r17) (by exact e5_35)) _) rfl ?_
                refine WL_call (gdY (b := (decide (x51 = 0))) 60 rfl rfl hb52) (o_call Try.call13 (argCons rfl argNil) _) rfl (h.mono ?_)
                rintro _ w53 ⟨x54, rfl, h⟩
                refine WL_val (gdY (b := (decide (x51 = 0))) 60 rfl rfl hb52) ((o_eqlPtrNil Try.underlying24 rfl rfl) _) rfl ?_
                refine WL_val gd0 ((o_pickT (v := .bool ((x54).isNone)) rfl hb52 rfl) _) rfl ?_
                refine WL_val gd0 ((o_move (v := .bool ((x54).isNone)) rfl) _) rfl ?_
                refine bsplit ((x54).isNone) (fun hb55 => ?_) (fun hb55 => ?_)
                · rw [if_pos hb55] at h
                  refine WL_call (gdY (b := ((x54).isNone)) 65 rfl rfl hb55) (o_call Try.call7 argNil _) rfl (h.mono ?_)
                  rintro _ w56 ⟨x57, rfl, h⟩
                  refine WL_val gd0 ((o_pickT (v := .bool x57) rfl hb55 rfl) _) rfl ?_
                  refine WL_val gd0 ((o_assign (v := .bool x57) rfl) _) rfl ?_
                  refine WL_nil ?_
                  refine nrm ?_
                  refine WC_ret ?_
                  refine rtT ?_
                  refine rtE ?_
                  exact gv1 rfl rfl h
                · rw [if_neg (neT hb55)] at h
                  refine WL_skip (gdN (b := ((x54).isNone)) 65 rfl rfl hb55) rfl ?_
                  refine WL_val gd0 ((o_pickF (v := .bool false) rfl hb55 rfl) _) rfl ?_
                  refine WL_val gd0 ((o_assign (v := .bool false) rfl) _) rfl ?_
                  refine WL_nil ?_
                  refine nrm ?_
                  refine WC_ret ?_
                  refine rtT ?_
                  refine rtE ?_
                  exact gv1 rfl rfl h
              · rw [if_neg (of_decide_eq_false hb52)] at h
                refine WL_skip (gdN (b := (decide (x51 = 0))) 60 rfl rfl hb52) rfl ?_
                refine WL_skip (gdN (b := (decide (x51 = 0))) 60 rfl rfl hb52) rfl ?_
                refine WL_skip (gdN (b := (decide (x51 = 0))) 60 rfl rfl hb52) rfl ?_
                refine WL_val gd0 ((o_pickF (v := .bool false) rfl hb52 rfl) _) rfl ?_
                refine WL_val gd0 ((o_move (v := .bool false) rfl) _) rfl ?_
                refine WL_skip (gdN (b := false) 65 rfl rfl rfl) rfl ?_
                refine WL_val gd0 ((o_pickF (v := .bool false) rfl rfl rfl) _) rfl ?_
                refine WL_val gd0 ((o_assign (v := .bool false) rfl) _) rfl ?_
                refine WL_nil ?_
                refine nrm ?_
                refine WC_ret ?_
                refine rtT ?_
                refine rtE ?_
                exact gv1 rfl rfl h
            · rw [if_neg (neT hb49)] at h
              refine WL_skip (gdN (b := (!r47)) 55 rfl rfl hb49) rfl ?_
              refine WL_skip (gdN (b := (!r47)) 55 rfl rfl hb49) rfl ?_
              refine WL_skip (gdN (b := (!r47)) 55 rfl rfl hb49) rfl ?_
              refine WL_val gd0 ((o_pickF (v := .bool false) rfl hb49 rfl) _) rfl ?_
              refine WL_val gd0 ((o_move (v := .bool false) rfl) _) rfl ?_
              refine WL_skip (gdN (b := false) 60 rfl rfl rfl) rfl ?_
              refine WL_skip (gdN (b := false) 60 rfl rfl rfl) rfl ?_
              refine WL_skip (gdN (b := false) 60 rfl rfl rfl) rfl ?_
              refine WL_val gd0 ((o_pickF (v := .bool false) rfl rfl rfl) _) rfl ?_
              refine WL_val gd0 ((o_move (v := .bool false) rfl) _) rfl ?_
              refine WL_skip (gdN (b := false) 65 rfl rfl rfl) rfl ?_
              refine WL_val gd0 ((o_pickF (v := .bool false) rfl rfl rfl) _) rfl ?_
              refine WL_val gd0 ((o_assign (v := .bool false) rfl) _) rfl ?_
              refine WL_nil ?_
              refine nrm ?_
              refine WC_ret ?_
              refine rtT ?_
              refine rtE ?_
              exact gv1 rfl rfl h
          · rw [if_neg (of_decide_eq_false hb48)] at h
            refine WL_skip (gdN (b := (decide (r18 = r29))) 51 rfl rfl hb48) rfl ?_
            refine WL_skip (gdN (b := (decide (r18 = r29))) 51 rfl rfl hb48) rfl ?_
            refine WL_val gd0 ((o_pickF (v := .bool false) rfl hb48 rfl) _) rfl ?_
            refine WL_val gd0 ((o_move (v := .bool false) rfl) _) rfl ?_
            refine WL_skip (gdN (b := false) 55 rfl rfl rfl) rfl ?_
            refine WL_skip (gdN (b := false) 55 rfl rfl rfl) rfl ?_
            refine WL_skip (gdN (b := false) 55 rfl rfl rfl) rfl ?_
            refine WL_val gd0 ((o_pickF (v := .bool false) rfl rfl rfl) _) rfl ?_
            refine WL_val gd0 ((o_move (v := .bool false) rfl) _) rfl ?_
            refine WL_skip (gdN (b := false) 60 rfl rfl rfl) rfl ?_
            refine WL_skip (gdN (b := false) 60 rfl rfl rfl) rfl ?_
            refine WL_skip (gdN (b := false) 60 rfl rfl rfl) rfl ?_
            refine WL_val gd0 ((o_pickF (v := .bool false) rfl rfl rfl) _) rfl ?_
            refine WL_val gd0 ((o_move (v := .bool false) rfl) _) rfl ?_
            refine WL_skip (gdN (b := false) 65 rfl rfl rfl) rfl ?_
            refine WL_val gd0 ((o_pickF (v := .bool false) rfl rfl rfl) _) rfl ?_
            refine WL_val gd0 ((o_assign (v := .bool false) rfl) _) rfl ?_
            refine WL_nil ?_
            refine nrm ?_
            refine WC_ret ?_
            refine rtT ?_
            refine rtE ?_
            exact gv1 rfl rfl h
        · rw [if_neg (neT hb42)] at h
          refine WC_skip ?_
          refine nrm ?_
          refine WC_seq ?_
          refine WC_seq ?_
          refine WC_region ?_
          refine WL_val gd0 ((o_assign (v := .int .i64 0) rfl) _) rfl ?_
          refine WL_nil ?_
          refine nrm ?_
          refine WC_block ?_
          obtain ⟨J64, ⟨n64, h0⟩, hr64⟩ := h
          refine WC_loop (fun n ρ w' => ∃ (m60 : Option Addr) (i63 : Int), ρ 5 = .pointer m60 ∧ ρ 11 = .int .i64 i63 ∧ ρ 1 = .slice ready_a4 ready_n5 ready_c6 ∧ ρ 7 = .pointer (some p30) ∧ J64 n (m60, i63) w') ⟨n64, _, _, e5_35, rfl, e1_34, e7_37, h0⟩ ?_
          rintro n64 ρ w64 ⟨m60, i63, e5_59, e11_62, e1_58, e7_61, h⟩
          have h : F6_b3 ready_n5 ready_a4 p30 m60 i63 w64 k (fun x0 x1 w => ∃ m, m < n64 ∧ J64 m (x0, x1) w) := hr64 n64 (m60, i63) w64 h
          unfold F6_b3 at h
          refine WC_seq ?_
          refine WC_seq ?_
          refine WC_region ?_
          refine WL_val gd0 ((o_move (v := .int .i64 i63) (by exact e11_62)) _) rfl ?_
          refine WL_val gd0 ((o_move (v := .slice ready_a4 ready_n5 ready_c6) (by exact e1_58)) _) rfl ?_
          refine WL_val gd0 ((o_len Try.underlying42 rfl) _) rfl ?_
          refine WL_val gd0 ((o_lss rfl rfl) _) rfl ?_
          refine WL_nil ?_
          refine nrm ?_
          refine WC_cond (t := (decide (i63 < (ready_n5 : Int)))) rfl (fun hb66 => ?_) (fun hb66 => ?_)
          · rw [if_pos (of_decide_eq_true hb66)] at h
            refine WC_skip ?_
            refine nrm ?_
            refine WC_seq ?_
            refine WC_block ?_
            refine WC_seq ?_
            refine WC_seq ?_
            refine WC_region ?_
            refine WL_val gd0 ((o_move (v := .slice ready_a4 ready_n5 ready_c6) (by exact e1_58)) _) rfl ?_
            refine WL_val gd0 ((o_move (v := .int .i64 i63) (by exact e11_62)) _) rfl ?_
            obtain ⟨p69, q70, h⟩ := h
            obtain ⟨l67, u68, h⟩ := h
            refine WL_val gd0 ((o_indexAddr1 Try.underlying42 Try.sizeOf28 (by exact (congrArg (fun z => Value.slice z ready_n5 ready_c6) q70)) rfl l67 u68) _) rfl ?_
            obtain ⟨x_a71, x_n72, x_c73, hc74, h⟩ := h
            refine WL_val gd0 (o_load Try.isAgg28 rfl hc74) rfl ?_
            refine WL_val gd0 ((o_len Try.underlying28 rfl) _) rfl ?_
            refine WL_val gd0 ((o_gtr rfl rfl) _) rfl ?_
            refine WL_nil ?_
            refine nrm ?_
            refine WC_cond (t := (decide (50 < (x_n72 : Int)))) rfl (fun hb75 => ?_) (fun hb75 => ?_)
            · rw [if_pos (of_decide_eq_true hb75)] at h
              refine WC_seq ?_
              refine WC_region ?_
              refine WL_call gd0 (o_call Try.call7 argNil _) rfl (h.mono ?_)
              rintro _ w76 ⟨t77, rfl, h⟩
              refine WL_val gd0 ((o_assign (v := .bool t77) rfl) _) rfl ?_
              refine WL_nil ?_
              refine nrm ?_
              refine WC_ret ?_
              refine rtT ?_
              refine rtB ?_
              refine rtT ?_
              refine rtT ?_
              refine rtB ?_
              refine rtT ?_
              refine rtE ?_
              exact gv1 rfl rfl h
            · rw [if_neg (of_decide_eq_false hb75)] at h
              refine WC_skip ?_
              refine nrm ?_
              refine WC_seq ?_
              refine WC_region ?_
              refine WL_val gd0 ((o_move (v := .pointer m60) (by exact e5_59)) _) rfl ?_
              refine WL_val gd0 ((o_move (v := .slice ready_a4 ready_n5 ready_c6) (by exact e1_58)) _) rfl ?_
              refine WL_val gd0 ((o_move (v := .int .i64 i63) (by exact e11_62)) _) rfl ?_
              obtain ⟨l78, u79, h⟩ := h
              refine WL_val gd0 ((o_indexAddr1 Try.underlying42 Try.sizeOf28 (by exact (congrArg (fun z => Value.slice z ready_n5 ready_c6) q70)) rfl l78 u79) _) rfl ?_
              obtain ⟨x_a80, x_n81, x_c82, hc83, h⟩ := h
              refine WL_val gd0 (o_load Try.isAgg28 rfl hc83) rfl ?_
              refine WL_call gd0 (o_call Try.call10 (argCons rfl (argCons rfl argNil)) _) rfl (h.mono ?_)
              rintro _ w84 ⟨r85, r86, rfl, h⟩
              refine WL_val gd0 ((o_move (v := .tuple #[.int .i64 r85, .bool r86]) rfl) _) rfl ?_
              refine WL_val gd0 ((o_extract (vs := [.int .i64 r85, .bool r86]) (r := .int .i64 r85) rfl rfl) _) rfl ?_
              refine WL_val gd0 ((o_extract (vs := [.int .i64 r85, .bool r86]) (r := .bool r86) rfl rfl) _) rfl ?_
              refine WL_val gd0 ((o_assign (v := .int .i64 r85) rfl) _) rfl ?_
              refine WL_val gd0 ((o_assign (v := .bool r86) rfl) _) rfl ?_
              refine WL_nil ?_
              refine nrm ?_
              refine WC_seq ?_
              refine WC_region ?_
              refine WL_val gd0 ((o_move (v := .slice ready_a4 ready_n5 ready_c6) (by exact e1_58)) _) rfl ?_
              refine WL_val gd0 ((o_move (v := .int .i64 i63) (by exact e11_62)) _) rfl ?_
              obtain ⟨l87, u88, h⟩ := h
              refine WL_val gd0 ((o_indexAddr1 Try.underlying42 Try.sizeOf28 (by exact (congrArg (fun z => Value.slice z ready_n5 ready_c6) q70)) rfl l87 u88) _) rfl ?_
              obtain ⟨x_a89, x_n90, x_c91, hc92, h⟩ := h
              refine WL_val gd0 (o_load Try.isAgg28 rfl hc92) rfl ?_
              refine WL_call gd0 (o_call Try.call14 (argCons (by exact e7_61) (argCons rfl argNil)) _) rfl (h.mono ?_)
              rintro _ w93 ⟨k94, rfl, h⟩
              refine WL_val gd0 ((o_assign (v := .int .i64 k94) rfl) _) rfl ?_
              refine WL_nil ?_
              refine nrm ?_
              refine WC_seq ?_
              refine WC_seq ?_
              refine WC_region ?_
              refine WL_val gd0 ((o_move (v := .bool r86) rfl) _) rfl ?_
              refine WL_val gd0 ((o_move (v := .int .i64 k94) rfl) _) rfl ?_
              refine WL_val gd0 ((o_geq rfl rfl) _) rfl ?_
              refine WL_val gd0 ((o_neqBool Try.underlying4 rfl rfl) _) rfl ?_
              refine WL_val gd0 ((o_move (v := .bool (!(r86 == (decide (0 ≤ k94))))) rfl) _) rfl ?_
              refine bsplit (!(r86 == (decide (0 ≤ k94)))) (fun hb95 => ?_) (fun hb95 => ?_)
              · rw [if_pos hb95] at h
                refine WL_skip (gdN (b := (!(r86 == (decide (0 ≤ k94))))) 99 rfl rfl hb95) rfl ?_
                refine WL_skip (gdN (b := (!(r86 == (decide (0 ≤ k94))))) 99 rfl rfl hb95) rfl ?_
                refine WL_skip (gdU 101 rfl rfl) rfl ?_
                refine WL_skip (gdU 101 rfl rfl) rfl ?_
                refine WL_skip (gdU 101 rfl rfl) rfl ?_
                refine WL_skip (gdU 101 rfl rfl) rfl ?_
                refine WL_skip (gdU 101 rfl rfl) rfl ?_
                refine WL_skip (gdU 101 rfl rfl) rfl ?_
                refine WL_skip (gdU 101 rfl rfl) rfl ?_
                refine WL_skip (gdU 101 rfl rfl) rfl ?_
                refine WL_skip (gdN (b := (!(r86 == (decide (0 ≤ k94))))) 99 rfl rfl hb95) rfl ?_
                refine WL_val gd0 ((o_pickT (v := .bool true) rfl hb95 rfl) _) rfl ?_
                refine WL_val gd0 ((o_move (v := .bool true) rfl) _) rfl ?_
                refine WL_skip (gdN (b := true) 112 rfl rfl rfl) rfl ?_
                refine WL_skip (gdN (b := true) 112 rfl rfl rfl) rfl ?_
                refine WL_skip (gdN (b := true) 112 rfl rfl rfl) rfl ?_
                refine WL_skip (gdU 115 rfl rfl) rfl ?_
                refine WL_skip (gdU 115 rfl rfl) rfl ?_
                refine WL_skip (gdN (b := true) 112 rfl rfl rfl) rfl ?_
                refine WL_val gd0 ((o_pickT (v := .bool true) rfl rfl rfl) _) rfl ?_
                refine WL_nil ?_
                refine nrm ?_
                refine WC_cond (t := true) rfl (fun _ => ?_) (fun hx => by rw [(rfl : true = true)] at hx; cases hx)
                refine WC_seq ?_
                refine WC_region ?_
                refine WL_val gd0 ((o_assign (v := .bool false) rfl) _) rfl ?_
                refine WL_nil ?_
                refine nrm ?_
                refine WC_ret ?_
                refine rtT ?_
                refine rtB ?_
                refine rtT ?_
                refine rtT ?_
                refine rtB ?_
                refine rtT ?_
                refine rtE ?_
                exact gv1 rfl rfl h
              · rw [if_neg (neT hb95)] at h
                refine WL_val (gdY (b := (!(r86 == (decide (0 ≤ k94))))) 99 rfl rfl hb95) ((o_move (v := .bool r86) rfl) _) rfl ?_
                refine WL_val (gdY (b := (!(r86 == (decide (0 ≤ k94))))) 99 rfl rfl hb95) ((o_move (v := .bool r86) rfl) _) rfl ?_
                refine bsplit r86 (fun hb96 => ?_) (fun hb96 => ?_)
                · rw [if_pos hb96] at h
                  refine WL_val (gdY (b := r86) 101 rfl rfl hb96) ((o_move (v := .int .i64 r85) rfl) _) rfl ?_
                  refine WL_val (gdY (b := r86) 101 rfl rfl hb96) ((o_fieldAddr0 Try.underlying30 rfl Try.sizeOf22 rfl rfl (by exact e7_61)) _) rfl ?_
                  obtain ⟨x_a97, x_n98, x_c99, hc100, h⟩ := h
                  refine WL_val (gdY (b := r86) 101 rfl rfl hb96) (o_load Try.isAgg22 rfl hc100) rfl ?_
                  refine WL_val (gdY (b := r86) 101 rfl rfl hb96) ((o_move (v := .int .i64 k94) rfl) _) rfl ?_
                  obtain ⟨p103, q104, h⟩ := h
                  obtain ⟨l101, u102, h⟩ := h
                  refine WL_val (gdY (b := r86) 101 rfl rfl hb96) ((o_indexAddr Try.underlying22 Try.sizeOf35 (by exact (congrArg (fun z => Value.slice z x_n98 x_c99) q104)) rfl l101 u102) _) rfl ?_
                  refine WL_val (gdY (b := r86) 101 rfl rfl hb96) ((o_fieldAddr0 Try.underlying35 rfl Try.sizeOf3 rfl rfl rfl) _) rfl ?_
                  obtain ⟨x105, hc106, h⟩ := h
                  refine WL_val (gdY (b := r86) 101 rfl rfl hb96) (o_load Try.isAgg3 rfl hc106) rfl ?_
                  refine WL_val (gdY (b := r86) 101 rfl rfl hb96) ((o_neq rfl rfl) _) rfl ?_
                  refine WL_val (gdY (b := (!(r86 == (decide (0 ≤ k94))))) 99 rfl rfl hb95) ((o_pickT (v := .bool (decide (r85 ≠ x105))) rfl hb96 rfl) _) rfl ?_
                  refine WL_val gd0 ((o_pickF (v := .bool (decide (r85 ≠ x105))) rfl hb95 rfl) _) rfl ?_
                  refine WL_val gd0 ((o_move (v := .bool (decide (r85 ≠ x105))) rfl) _) rfl ?_
                  refine bsplit (decide (r85 ≠ x105)) (fun hb107 => ?_) (fun hb107 => ?_)
                  · rw [if_pos (of_decide_eq_true hb107)] at h
                    refine WL_skip (gdN (b := (decide (r85 ≠ x105))) 112 rfl rfl hb107) rfl ?_
                    refine WL_skip (gdN (b := (decide (r85 ≠ x105))) 112 rfl rfl hb107) rfl ?_
                    refine WL_skip (gdN (b := (decide (r85 ≠ x105))) 112 rfl rfl hb107) rfl ?_
                    refine WL_skip (gdU 115 rfl rfl) rfl ?_
                    refine WL_skip (gdU 115 rfl rfl) rfl ?_
                    refine WL_skip (gdN (b := (decide (r85 ≠ x105))) 112 rfl rfl hb107) rfl ?_
                    refine WL_val gd0 ((o_pickT (v := .bool true) rfl hb107 rfl) _) rfl ?_
                    refine WL_nil ?_
                    refine nrm ?_
                    refine WC_cond (t := true) rfl (fun _ => ?_) (fun hx => by rw [(rfl : true = true)] at hx; cases hx)
                    refine WC_seq ?_
                    refine WC_region ?_
                    refine WL_val gd0 ((o_assign (v := .bool false) rfl) _) rfl ?_
                    refine WL_nil ?_
                    refine nrm ?_
                    refine WC_ret ?_
                    refine rtT ?_
                    refine rtB ?_
                    refine rtT ?_
                    refine rtT ?_
                    refine rtB ?_
                    refine rtT ?_
                    refine rtE ?_
                    exact gv1 rfl rfl h
                  · rw [if_neg (of_decide_eq_false hb107)] at h
                    refine WL_val (gdY (b := (decide (r85 ≠ x105))) 112 rfl rfl hb107) ((o_move (v := .bool r86) rfl) _) rfl ?_
                    refine WL_val (gdY (b := (decide (r85 ≠ x105))) 112 rfl rfl hb107) ((o_not rfl) _) rfl ?_
                    refine WL_val (gdY (b := (decide (r85 ≠ x105))) 112 rfl rfl hb107) ((o_move (v := .bool (!r86)) rfl) _) rfl ?_
                    refine bsplit (!r86) (fun hb108 => ?_) (fun hb108 => ?_)
                    · rw [if_pos hb108] at h
                      refine WL_val (gdY (b := (!r86)) 115 rfl rfl hb108) ((o_move (v := .int .i64 r85) rfl) _) rfl ?_
                      refine WL_val (gdY (b := (!r86)) 115 rfl rfl hb108) ((o_neq rfl rfl) _) rfl ?_
                      refine WL_val (gdY (b := (decide (r85 ≠ x105))) 112 rfl rfl hb107) ((o_pickT (v := .bool (decide (r85 ≠ 0))) rfl hb108 rfl) _) rfl ?_
                      refine WL_val gd0 ((o_pickF (v := .bool (decide (r85 ≠ 0))) rfl hb107 rfl) _) rfl ?_
                      refine WL_nil ?_
                      refine nrm ?_
                      refine WC_cond (t := (decide (r85 ≠ 0))) rfl (fun hb109 => ?_) (fun hb109 => ?_)
                      · rw [if_pos (of_decide_eq_true hb109)] at h
                        refine WC_seq ?_
                        refine WC_region ?_
                        refine WL_val gd0 ((o_assign (v := .bool false) rfl) _) rfl ?_
                        refine WL_nil ?_
                        refine nrm ?_
                        refine WC_ret ?_
                        refine rtT ?_
                        refine rtB ?_
                        refine rtT ?_
                        refine rtT ?_
                        refine rtB ?_
                        refine rtT ?_
                        refine rtE ?_
                        exact gv1 rfl rfl h
                      · rw [if_neg (of_decide_eq_false hb109)] at h
                        refine WC_skip ?_
                        refine nrm ?_
                        refine WC_seq ?_
                        refine WC_region ?_
                        refine WL_val gd0 ((o_move (v := .int .i64 i63) (by exact e11_62)) _) rfl ?_
                        refine WL_val gd0 ((fun w => o_rem rfl rfl w (by decide)) _) rfl ?_
                        refine WL_val gd0 ((o_eql rfl rfl) _) rfl ?_
                        refine WL_nil ?_
                        refine nrm ?_
                        refine WC_cond (t := (decide ((Int.tmod i63 7) = 3))) rfl (fun hb110 => ?_) (fun hb110 => ?_)
                        · rw [if_pos (of_decide_eq_true hb110)] at h
                          refine WC_seq ?_
                          refine WC_region ?_
                          refine WL_val gd0 ((o_move (v := .pointer m60) (by exact e5_59)) _) rfl ?_
                          refine WL_call gd0 (o_call Try.call13 (argCons rfl argNil) _) rfl (h.mono ?_)
                          rintro _ w111 ⟨c112, rfl, h⟩
                          refine WL_val gd0 ((o_assign (v := .pointer c112) rfl) _) rfl ?_
                          refine WL_nil ?_
                          refine nrm ?_
                          refine WC_seq ?_
                          refine WC_region ?_
                          refine WL_val gd0 ((o_move (v := .pointer m60) (by exact e5_59)) _) rfl ?_
                          have h := New.out h
                          refine WL_val gd0 (o_buildSlice (e := 3) (ps := [(0, .int .i64 0), (1, .int .i64 1), (2, .int .i64 2), (3, .int .i64 3), (4, .int .i64 4), (5, .int .i64 5), (6, .int .i64 6), (7, .int .i64 7)]) (cs := [.int .i64 0, .int .i64 1, .int .i64 2, .int .i64 3, .int .i64 4, .int .i64 5, .int .i64 6, .int .i64 7]) (partCons rfl (partCons rfl (partCons rfl (partCons rfl (partCons rfl (partCons rfl (partCons rfl (partCons rfl partNil)))))))) (fun w => by kernel_rfl)) rfl ?_
                          generalize hp113 : fresh w111 = p113 at h ⊢
                          generalize hw114 : push w111 3 [.int .i64 0, .int .i64 1, .int .i64 2, .int .i64 3, .int .i64 4, .int .i64 5, .int .i64 6, .int .i64 7] = w114 at h ⊢
                          try dsimp only at h
                          refine WL_call gd0 (o_call Try.call10 (argCons rfl (argCons rfl argNil)) _) rfl (h.mono ?_)
                          rintro _ w115 ⟨r116, r117, rfl, h⟩
                          refine WL_nil ?_
                          refine nrm ?_
                          refine WC_region ?_
                          refine WL_val gd0 ((o_move (v := .pointer c112) rfl) _) rfl ?_
                          refine WL_val gd0 ((o_assign (v := .pointer c112) rfl) _) rfl ?_
                          refine WL_nil ?_
                          refine nrmB ?_
                          refine nrm ?_
                          refine WC_region ?_
                          refine WL_val gd0 ((o_move (v := .int .i64 i63) (by exact e11_62)) _) rfl ?_
                          refine WL_val gd0 ((o_add rfl rfl) _) rfl ?_
                          refine WL_val gd0 ((o_assign (v := .int .i64 (IntKind.i64.wrap (i63 + 1))) rfl) _) rfl ?_
                          refine WL_nil ?_
                          refine nrm ?_
                          obtain ⟨m65, hm65, h⟩ := h
                          exact ⟨m65, hm65, _, _, rfl, rfl, e1_58, e7_61, h⟩
                        · rw [if_neg (of_decide_eq_false hb110)] at h
                          refine WC_skip ?_
                          refine nrmB ?_
                          refine nrm ?_
                          refine WC_region ?_
                          refine WL_val gd0 ((o_move (v := .int .i64 i63) (by exact e11_62)) _) rfl ?_
                          refine WL_val gd0 ((o_add rfl rfl) _) rfl ?_
                          refine WL_val gd0 ((o_assign (v := .int .i64 (IntKind.i64.wrap (i63 + 1))) rfl) _) rfl ?_
                          refine WL_nil ?_
                          refine nrm ?_
                          obtain ⟨m65, hm65, h⟩ := h
                          exact ⟨m65, hm65, _, _, e5_59, rfl, e1_58, e7_61, h⟩
                    · rw [if_neg (neT hb108)] at h
                      refine WL_skip (gdN (b := (!r86)) 115 rfl rfl hb108) rfl ?_
                      refine WL_skip (gdN (b := (!r86)) 115 rfl rfl hb108) rfl ?_
                      refine WL_val (gdY (b := (decide (r85 ≠ x105))) 112 rfl rfl hb107) ((o_pickF (v := .bool false) rfl hb108 rfl) _) rfl ?_
                      refine WL_val gd0 ((o_pickF (v := .bool false) rfl hb107 rfl) _) rfl ?_
                      refine WL_nil ?_
                      refine nrm ?_
                      refine WC_cond (t := false) rfl (fun hx => by rw [(rfl : false = false)] at hx; cases hx) (fun _ => ?_)
                      refine WC_skip ?_
                      refine nrm ?_
                      refine WC_seq ?_
                      refine WC_region ?_
                      refine WL_val gd0 ((o_move (v := .int .i64 i63) (by exact e11_62)) _) rfl ?_
                      refine WL_val gd0 ((fun w => o_rem rfl rfl w (by decide)) _) rfl ?_
                      refine WL_val gd0 ((o_eql rfl rfl) _) rfl ?_
                      refine WL_nil ?_
                      refine nrm ?_
                      refine WC_cond (t := (decide ((Int.tmod i63 7) = 3))) rfl (fun hb118 => ?_) (fun hb118 => ?_)
                      · rw [if_pos (of_decide_eq_true hb118)] at h
                        refine WC_seq ?_
                        refine WC_region ?_
                        refine WL_val gd0 ((o_move (v := .pointer m60) (by exact e5_59)) _) rfl ?_
                        refine WL_call gd0 (o_call Try.call13 (argCons rfl argNil) _) rfl (h.mono ?_)
                        rintro _ w119 ⟨c120, rfl, h⟩
                        refine WL_val gd0 ((o_assign (v := .pointer c120) rfl) _) rfl ?_
                        refine WL_nil ?_
                        refine nrm ?_
                        refine WC_seq ?_
                        refine WC_region ?_
                        refine WL_val gd0 ((o_move (v := .pointer m60) (by exact e5_59)) _) rfl ?_
                        have h := New.out h
                        refine WL_val gd0 (o_buildSlice (e := 3) (ps := [(0, .int .i64 0), (1, .int .i64 1), (2, .int .i64 2), (3, .int .i64 3), (4, .int .i64 4), (5, .int .i64 5), (6, .int .i64 6), (7, .int .i64 7)]) (cs := [.int .i64 0, .int .i64 1, .int .i64 2, .int .i64 3, .int .i64 4, .int .i64 5, .int .i64 6, .int .i64 7]) (partCons rfl (partCons rfl (partCons rfl (partCons rfl (partCons rfl (partCons rfl (partCons rfl (partCons rfl partNil)))))))) (fun w => by kernel_rfl)) rfl ?_
                        generalize hp121 : fresh w119 = p121 at h ⊢
                        generalize hw122 : push w119 3 [.int .i64 0, .int .i64 1, .int .i64 2, .int .i64 3, .int .i64 4, .int .i64 5, .int .i64 6, .int .i64 7] = w122 at h ⊢
                        try dsimp only at h
                        refine WL_call gd0 (o_call Try.call10 (argCons rfl (argCons rfl argNil)) _) rfl (h.mono ?_)
                        rintro _ w123 ⟨r124, r125, rfl, h⟩
                        refine WL_nil ?_
                        refine nrm ?_
                        refine WC_region ?_
                        refine WL_val gd0 ((o_move (v := .pointer c120) rfl) _) rfl ?_
                        refine WL_val gd0 ((o_assign (v := .pointer c120) rfl) _) rfl ?_
                        refine WL_nil ?_
                        refine nrmB ?_
                        refine nrm ?_
                        refine WC_region ?_
                        refine WL_val gd0 ((o_move (v := .int .i64 i63) (by exact e11_62)) _) rfl ?_
                        refine WL_val gd0 ((o_add rfl rfl) _) rfl ?_
                        refine WL_val gd0 ((o_assign (v := .int .i64 (IntKind.i64.wrap (i63 + 1))) rfl) _) rfl ?_
                        refine WL_nil ?_
                        refine nrm ?_
                        obtain ⟨m65, hm65, h⟩ := h
                        exact ⟨m65, hm65, _, _, rfl, rfl, e1_58, e7_61, h⟩
                      · rw [if_neg (of_decide_eq_false hb118)] at h
                        refine WC_skip ?_
                        refine nrmB ?_
                        refine nrm ?_
                        refine WC_region ?_
                        refine WL_val gd0 ((o_move (v := .int .i64 i63) (by exact e11_62)) _) rfl ?_
                        refine WL_val gd0 ((o_add rfl rfl) _) rfl ?_
                        refine WL_val gd0 ((o_assign (v := .int .i64 (IntKind.i64.wrap (i63 + 1))) rfl) _) rfl ?_
                        refine WL_nil ?_
                        refine nrm ?_
                        obtain ⟨m65, hm65, h⟩ := h
                        exact ⟨m65, hm65, _, _, e5_59, rfl, e1_58, e7_61, h⟩
                · rw [if_neg (neT hb96)] at h
                  refine WL_skip (gdN (b := r86) 101 rfl rfl hb96) rfl ?_
                  refine WL_skip (gdN (b := r86) 101 rfl rfl hb96) rfl ?_
                  refine WL_skip (gdN (b := r86) 101 rfl rfl hb96) rfl ?_
                  refine WL_skip (gdN (b := r86) 101 rfl rfl hb96) rfl ?_
                  refine WL_skip (gdN (b := r86) 101 rfl rfl hb96) rfl ?_
                  refine WL_skip (gdN (b := r86) 101 rfl rfl hb96) rfl ?_
                  refine WL_skip (gdN (b := r86) 101 rfl rfl hb96) rfl ?_
                  refine WL_skip (gdN (b := r86) 101 rfl rfl hb96) rfl ?_
                  refine WL_val (gdY (b := (!(r86 == (decide (0 ≤ k94))))) 99 rfl rfl hb95) ((o_pickF (v := .bool false) rfl hb96 rfl) _) rfl ?_
                  refine WL_val gd0 ((o_pickF (v := .bool false) rfl hb95 rfl) _) rfl ?_
                  refine WL_val gd0 ((o_move (v := .bool false) rfl) _) rfl ?_
                  refine WL_val (gdY (b := false) 112 rfl rfl rfl) ((o_move (v := .bool r86) rfl) _) rfl ?_
                  refine WL_val (gdY (b := false) 112 rfl rfl rfl) ((o_not rfl) _) rfl ?_
                  refine WL_val (gdY (b := false) 112 rfl rfl rfl) ((o_move (v := .bool (!r86)) rfl) _) rfl ?_
                  refine bsplit (!r86) (fun hb126 => ?_) (fun hb126 => ?_)
                  · rw [if_pos hb126] at h
                    refine WL_val (gdY (b := (!r86)) 115 rfl rfl hb126) ((o_move (v := .int .i64 r85) rfl) _) rfl ?_
                    refine WL_val (gdY (b := (!r86)) 115 rfl rfl hb126) ((o_neq rfl rfl) _) rfl ?_
                    refine WL_val (gdY (b := false) 112 rfl rfl rfl) ((o_pickT (v := .bool (decide (r85 ≠ 0))) rfl hb126 rfl) _) rfl ?_
                    refine WL_val gd0 ((o_pickF (v := .bool (decide (r85 ≠ 0))) rfl rfl rfl) _) rfl ?_
                    refine WL_nil ?_
                    refine nrm ?_
                    refine WC_cond (t := (decide (r85 ≠ 0))) rfl (fun hb127 => ?_) (fun hb127 => ?_)
                    · rw [if_pos (of_decide_eq_true hb127)] at h
                      refine WC_seq ?_
                      refine WC_region ?_
                      refine WL_val gd0 ((o_assign (v := .bool false) rfl) _) rfl ?_
                      refine WL_nil ?_
                      refine nrm ?_
                      refine WC_ret ?_
                      refine rtT ?_
                      refine rtB ?_
                      refine rtT ?_
                      refine rtT ?_
                      refine rtB ?_
                      refine rtT ?_
                      refine rtE ?_
                      exact gv1 rfl rfl h
                    · rw [if_neg (of_decide_eq_false hb127)] at h
                      refine WC_skip ?_
                      refine nrm ?_
                      refine WC_seq ?_
                      refine WC_region ?_
                      refine WL_val gd0 ((o_move (v := .int .i64 i63) (by exact e11_62)) _) rfl ?_
                      refine WL_val gd0 ((fun w => o_rem rfl rfl w (by decide)) _) rfl ?_
                      refine WL_val gd0 ((o_eql rfl rfl) _) rfl ?_
                      refine WL_nil ?_
                      refine nrm ?_
                      refine WC_cond (t := (decide ((Int.tmod i63 7) = 3))) rfl (fun hb128 => ?_) (fun hb128 => ?_)
                      · rw [if_pos (of_decide_eq_true hb128)] at h
                        refine WC_seq ?_
                        refine WC_region ?_
                        refine WL_val gd0 ((o_move (v := .pointer m60) (by exact e5_59)) _) rfl ?_
                        refine WL_call gd0 (o_call Try.call13 (argCons rfl argNil) _) rfl (h.mono ?_)
                        rintro _ w129 ⟨c130, rfl, h⟩
                        refine WL_val gd0 ((o_assign (v := .pointer c130) rfl) _) rfl ?_
                        refine WL_nil ?_
                        refine nrm ?_
                        refine WC_seq ?_
                        refine WC_region ?_
                        refine WL_val gd0 ((o_move (v := .pointer m60) (by exact e5_59)) _) rfl ?_
                        have h := New.out h
                        refine WL_val gd0 (o_buildSlice (e := 3) (ps := [(0, .int .i64 0), (1, .int .i64 1), (2, .int .i64 2), (3, .int .i64 3), (4, .int .i64 4), (5, .int .i64 5), (6, .int .i64 6), (7, .int .i64 7)]) (cs := [.int .i64 0, .int .i64 1, .int .i64 2, .int .i64 3, .int .i64 4, .int .i64 5, .int .i64 6, .int .i64 7]) (partCons rfl (partCons rfl (partCons rfl (partCons rfl (partCons rfl (partCons rfl (partCons rfl (partCons rfl partNil)))))))) (fun w => by kernel_rfl)) rfl ?_
                        generalize hp131 : fresh w129 = p131 at h ⊢
                        generalize hw132 : push w129 3 [.int .i64 0, .int .i64 1, .int .i64 2, .int .i64 3, .int .i64 4, .int .i64 5, .int .i64 6, .int .i64 7] = w132 at h ⊢
                        try dsimp only at h
                        refine WL_call gd0 (o_call Try.call10 (argCons rfl (argCons rfl argNil)) _) rfl (h.mono ?_)
                        rintro _ w133 ⟨r134, r135, rfl, h⟩
                        refine WL_nil ?_
                        refine nrm ?_
                        refine WC_region ?_
                        refine WL_val gd0 ((o_move (v := .pointer c130) rfl) _) rfl ?_
                        refine WL_val gd0 ((o_assign (v := .pointer c130) rfl) _) rfl ?_
                        refine WL_nil ?_
                        refine nrmB ?_
                        refine nrm ?_
                        refine WC_region ?_
                        refine WL_val gd0 ((o_move (v := .int .i64 i63) (by exact e11_62)) _) rfl ?_
                        refine WL_val gd0 ((o_add rfl rfl) _) rfl ?_
                        refine WL_val gd0 ((o_assign (v := .int .i64 (IntKind.i64.wrap (i63 + 1))) rfl) _) rfl ?_
                        refine WL_nil ?_
                        refine nrm ?_
                        obtain ⟨m65, hm65, h⟩ := h
                        exact ⟨m65, hm65, _, _, rfl, rfl, e1_58, e7_61, h⟩
                      · rw [if_neg (of_decide_eq_false hb128)] at h
                        refine WC_skip ?_
                        refine nrmB ?_
                        refine nrm ?_
                        refine WC_region ?_
                        refine WL_val gd0 ((o_move (v := .int .i64 i63) (by exact e11_62)) _) rfl ?_
                        refine WL_val gd0 ((o_add rfl rfl) _) rfl ?_
                        refine WL_val gd0 ((o_assign (v := .int .i64 (IntKind.i64.wrap (i63 + 1))) rfl) _) rfl ?_
                        refine WL_nil ?_
                        refine nrm ?_
                        obtain ⟨m65, hm65, h⟩ := h
                        exact ⟨m65, hm65, _, _, e5_59, rfl, e1_58, e7_61, h⟩
                  · rw [if_neg (neT hb126)] at h
                    refine WL_skip (gdN (b := (!r86)) 115 rfl rfl hb126) rfl ?_
                    refine WL_skip (gdN (b := (!r86)) 115 rfl rfl hb126) rfl ?_
                    refine WL_val (gdY (b := false) 112 rfl rfl rfl) ((o_pickF (v := .bool false) rfl hb126 rfl) _) rfl ?_
                    refine WL_val gd0 ((o_pickF (v := .bool false) rfl rfl rfl) _) rfl ?_
                    refine WL_nil ?_
                    refine nrm ?_
                    refine WC_cond (t := false) rfl (fun hx => by rw [(rfl : false = false)] at hx; cases hx) (fun _ => ?_)
                    refine WC_skip ?_
                    refine nrm ?_
                    refine WC_seq ?_
                    refine WC_region ?_
                    refine WL_val gd0 ((o_move (v := .int .i64 i63) (by exact e11_62)) _) rfl ?_
                    refine WL_val gd0 ((fun w => o_rem rfl rfl w (by decide)) _) rfl ?_
                    refine WL_val gd0 ((o_eql rfl rfl) _) rfl ?_
                    refine WL_nil ?_
                    refine nrm ?_
                    refine WC_cond (t := (decide ((Int.tmod i63 7) = 3))) rfl (fun hb136 => ?_) (fun hb136 => ?_)
                    · rw [if_pos (of_decide_eq_true hb136)] at h
                      refine WC_seq ?_
                      refine WC_region ?_
                      refine WL_val gd0 ((o_move (v := .pointer m60) (by exact e5_59)) _) rfl ?_
                      refine WL_call gd0 (o_call Try.call13 (argCons rfl argNil) _) rfl (h.mono ?_)
                      rintro _ w137 ⟨c138, rfl, h⟩
                      refine WL_val gd0 ((o_assign (v := .pointer c138) rfl) _) rfl ?_
                      refine WL_nil ?_
                      refine nrm ?_
                      refine WC_seq ?_
                      refine WC_region ?_
                      refine WL_val gd0 ((o_move (v := .pointer m60) (by exact e5_59)) _) rfl ?_
                      have h := New.out h
                      refine WL_val gd0 (o_buildSlice (e := 3) (ps := [(0, .int .i64 0), (1, .int .i64 1), (2, .int .i64 2), (3, .int .i64 3), (4, .int .i64 4), (5, .int .i64 5), (6, .int .i64 6), (7, .int .i64 7)]) (cs := [.int .i64 0, .int .i64 1, .int .i64 2, .int .i64 3, .int .i64 4, .int .i64 5, .int .i64 6, .int .i64 7]) (partCons rfl (partCons rfl (partCons rfl (partCons rfl (partCons rfl (partCons rfl (partCons rfl (partCons rfl partNil)))))))) (fun w => by kernel_rfl)) rfl ?_
                      generalize hp139 : fresh w137 = p139 at h ⊢
                      generalize hw140 : push w137 3 [.int .i64 0, .int .i64 1, .int .i64 2, .int .i64 3, .int .i64 4, .int .i64 5, .int .i64 6, .int .i64 7] = w140 at h ⊢
                      try dsimp only at h
                      refine WL_call gd0 (o_call Try.call10 (argCons rfl (argCons rfl argNil)) _) rfl (h.mono ?_)
                      rintro _ w141 ⟨r142, r143, rfl, h⟩
                      refine WL_nil ?_
                      refine nrm ?_
                      refine WC_region ?_
                      refine WL_val gd0 ((o_move (v := .pointer c138) rfl) _) rfl ?_
                      refine WL_val gd0 ((o_assign (v := .pointer c138) rfl) _) rfl ?_
                      refine WL_nil ?_
                      refine nrmB ?_
                      refine nrm ?_
                      refine WC_region ?_
                      refine WL_val gd0 ((o_move (v := .int .i64 i63) (by exact e11_62)) _) rfl ?_
                      refine WL_val gd0 ((o_add rfl rfl) _) rfl ?_
                      refine WL_val gd0 ((o_assign (v := .int .i64 (IntKind.i64.wrap (i63 + 1))) rfl) _) rfl ?_
                      refine WL_nil ?_
                      refine nrm ?_
                      obtain ⟨m65, hm65, h⟩ := h
                      exact ⟨m65, hm65, _, _, rfl, rfl, e1_58, e7_61, h⟩
                    · rw [if_neg (of_decide_eq_false hb136)] at h
                      refine WC_skip ?_
                      refine nrmB ?_
                      refine nrm ?_
                      refine WC_region ?_
                      refine WL_val gd0 ((o_move (v := .int .i64 i63) (by exact e11_62)) _) rfl ?_
                      refine WL_val gd0 ((o_add rfl rfl) _) rfl ?_
                      refine WL_val gd0 ((o_assign (v := .int .i64 (IntKind.i64.wrap (i63 + 1))) rfl) _) rfl ?_
                      refine WL_nil ?_
                      refine nrm ?_
                      obtain ⟨m65, hm65, h⟩ := h
                      exact ⟨m65, hm65, _, _, e5_59, rfl, e1_58, e7_61, h⟩
          · rw [if_neg (of_decide_eq_false hb66)] at h
            refine WC_exit ?_
            refine exT ?_
            refine exT ?_
            refine exB ?_
            refine nrm ?_
            refine WC_seq ?_
            refine WC_seq ?_
            refine WC_region ?_
            refine WL_val gd0 ((o_assign (v := .int .i64 (-1)) rfl) _) rfl ?_
            refine WL_nil ?_
            refine nrm ?_
            refine WC_block ?_
            obtain ⟨J148, ⟨n148, h0⟩, hr148⟩ := h
            refine WC_loop (fun n ρ w' => ∃ (id147 : Int), ρ 16 = .int .i64 id147 ∧ ρ 5 = .pointer m60 ∧ ρ 7 = .pointer (some p30) ∧ J148 n id147 w') ⟨n148, _, rfl, e5_59, e7_61, h0⟩ ?_
            rintro n148 ρ w148 ⟨id147, e16_146, e5_144, e7_145, h⟩
            have h : F6_b4 p30 m60 id147 w148 k (fun x0 w => ∃ m, m < n148 ∧ J148 m x0 w) := hr148 n148 id147 w148 h
            unfold F6_b4 at h
            refine WC_seq ?_
            refine WC_seq ?_
            refine WC_region ?_
            refine WL_val gd0 ((o_move (v := .int .i64 id147) (by exact e16_146)) _) rfl ?_
            refine WL_val gd0 ((o_lss rfl rfl) _) rfl ?_
            refine WL_nil ?_
            refine nrm ?_
            refine WC_cond (t := (decide (id147 < 9))) rfl (fun hb150 => ?_) (fun hb150 => ?_)
            · rw [if_pos (of_decide_eq_true hb150)] at h
              refine WC_skip ?_
              refine nrm ?_
              refine WC_seq ?_
              refine WC_block ?_
              refine WC_seq ?_
              refine WC_draws [2, 5] (.look 0 (.look 1 (.look 3 (.look 4 (.act 2 (.act 5 (.look 6 .nil))))))) Try.mixed (by kernel_rfl) ?_
              refine WQ_val rfl gd0 (o_move (v := .pointer m60) (by exact e5_144)) rfl ?_
              refine WQ_val rfl gd0 (o_move (v := .int .i64 id147) (by exact e16_146)) rfl ?_
              obtain ⟨x_a151, x_n152, x_c153, x_a154, x_n155, x_c156, x_a157, x_n158, x_c159, hc160, h⟩ := h
              refine WQ_look (fun w => Cells w p30 0 [.slice x_a151 x_n152 x_c153, .slice x_a154 x_n155 x_c156, .slice x_a157 x_n158 x_c159]) rfl gd0 (fun w hc => (o_loadAgg (vs := [.slice x_a151 x_n152 x_c153, .slice x_a154 x_n155 x_c156, .slice x_a157 x_n158 x_c159]) Try.isAgg30 Try.sizeOf30 (by exact e7_145) hc)) hc160 rfl ?_
              refine WQ_val rfl gd0 (o_move (v := .int .i64 id147) (by exact e16_146)) rfl ?_
              refine WQ_call rfl gd0 (o_call Try.call11 (argCons rfl (argCons rfl argNil)) _) rfl (h.mono ?_)
              rintro _ w161 ⟨x162, rfl, hh163, h⟩
              refine ⟨⟨trivial, fun _ => hh163⟩, ?_⟩
              refine WQ_call rfl gd0 (o_call Try.call15 (argCons rfl (argCons rfl argNil)) _) rfl (h.mono ?_)
              rintro _ w164 ⟨x165, rfl, h⟩
              refine ⟨⟨trivial, depT (by kernel_rfl)⟩, ?_⟩
              refine WQ_val rfl gd0 (o_neq rfl rfl) rfl ?_
              refine WQ_nil ?_
              refine nrm ?_
              refine WC_cond (t := (decide (x162 ≠ x165))) rfl (fun hb166 => ?_) (fun hb166 => ?_)
              · rw [if_pos (of_decide_eq_true hb166)] at h
                refine WC_seq ?_
                refine WC_region ?_
                refine WL_val gd0 ((o_assign (v := .bool false) rfl) _) rfl ?_
                refine WL_nil ?_
                refine nrm ?_
                refine WC_ret ?_
                refine rtB ?_
                refine rtT ?_
                refine rtT ?_
                refine rtB ?_
                refine rtT ?_
                refine rtE ?_
                exact gv1 rfl rfl h
              · rw [if_neg (of_decide_eq_false hb166)] at h
                refine WC_skip ?_
                refine nrmB ?_
                refine nrm ?_
                refine WC_region ?_
                refine WL_val gd0 ((o_move (v := .int .i64 id147) (by exact e16_146)) _) rfl ?_
                refine WL_val gd0 ((o_add rfl rfl) _) rfl ?_
                refine WL_val gd0 ((o_assign (v := .int .i64 (IntKind.i64.wrap (id147 + 1))) rfl) _) rfl ?_
                refine WL_nil ?_
                refine nrm ?_
                obtain ⟨m149, hm149, h⟩ := h
                exact ⟨m149, hm149, _, rfl, e5_144, e7_145, h⟩
            · rw [if_neg (of_decide_eq_false hb150)] at h
              refine WC_exit ?_
              refine exT ?_
              refine exT ?_
              refine exB ?_
              refine nrm ?_
              refine WC_seq ?_
              refine WC_region ?_
              refine WL_call gd0 (o_call Try.call7 argNil _) rfl (h.mono ?_)
              rintro _ w167 ⟨t168, rfl, h⟩
              refine WL_val gd0 ((o_assign (v := .bool t168) rfl) _) rfl ?_
              refine WL_nil ?_
              refine nrm ?_
              refine WC_ret ?_
              refine rtE ?_
              exact gv1 rfl rfl h

def F7_b1 (r5 : Option Addr) (p7 : Addr) (r6 : Int) (i13 : Int) (w14 : World) (k : Value → World → Prop) (nx14 : Int → World → Prop) : Prop :=
  if i13 < (7 : Int) then
  New w14 3 [.int .i64 2, .int .i64 1, .int .i64 0] (fun p17 w18 => Does Try.prog 10 #[.pointer r5, .slice (some p17) 3 3] w18 (fun v w19 => ∃ (r20 : Int) (r21 : Bool), v = .tuple #[.int .i64 r20, .bool r21] ∧ (0 : Int) ≤ i13 ∧ i13 < (7 : Int) ∧ ∃ (x24 : Int), w19.cell? (p7.add i13.toNat) = some (.int .i64 x24) ∧ if r20 ≠ x24 then
    k (.bool false) w19
  else
    if (!r21) = true then
      k (.bool false) w19
    else
      nx14 (IntKind.i64.wrap (i13 + 1)) w19))
else
  New w14 3 [.int .i64 0, .int .i64 4] (fun p28 w29 => Does Try.prog 10 #[.pointer r5, .slice (some p28) 2 2] w29 (fun v w30 => ∃ (r31 : Int) (r32 : Bool), v = .tuple #[.int .i64 r31, .bool r32] ∧ New w30 3 [.int .i64 7] (fun p33 w34 => Does Try.prog 10 #[.pointer r5, .slice (some p33) 1 1] w34 (fun v w35 => ∃ (r36 : Int) (r37 : Bool), v = .tuple #[.int .i64 r36, .bool r37] ∧ if r6 = 0 then
    if r31 = 4 then
      if r32 = true then
        if (!r37) = true then
          Does Try.prog 11 #[.pointer r5, .int .i64 0] w35 (fun v w42 => ∃ (x43 : Int), v = .int .i64 x43 ∧ if x43 = 5 then
            Does Try.prog 11 #[.pointer r5, .int .i64 4] w42 (fun v w45 => ∃ (x46 : Int), v = .int .i64 x46 ∧ k (.bool (decide (x46 = 1))) w45)
          else
            k (.bool false) w42)
        else
          k (.bool false) w35
      else
        k (.bool false) w35
    else
      k (.bool false) w35
  else
    k (.bool false) w35))))
/-- spacecraft spacecraftlaw22.alive -/
def F7 (w1 : World) (k : Value → World → Prop) : Prop :=
  New w1 35 [.int .i64 0, .int .i64 3, .int .i64 5, .int .i64 1, .int .i64 3, .int .i64 1, .int .i64 2, .int .i64 3, .int .i64 1, .int .i64 4, .int .i64 1, .int .i64 1] (fun p2 w3 => Does Try.prog 8 #[.slice (some p2) 4 4] w3 (fun v w4 => ∃ (r5 : Option Addr) (r6 : Int), v = .tuple #[.pointer r5, .int .i64 r6] ∧ New w4 3 [.int .i64 0, .int .i64 0, .int .i64 1, .int .i64 0, .int .i64 2, .int .i64 0, .int .i64 0] (fun p7 w8 => LoopP (fun (s : Int) w' nx' => F7_b1 r5 p7 r6 s w' k (fun x0 w => nx' x0 w)) 0 w8)))
set_option maxRecDepth 100000 in
set_option maxHeartbeats 2000000 in
theorem w7 (w1 : World) (k : Value → World → Prop) (h : F7 w1 k) : Does Try.prog 7 #[] w1 k := by
  refine enter 78 Try.func7 rfl rfl rfl ?_
  intro ρ hρ
  unfold F7 at h
  refine WC_seq ?_
  refine WC_region ?_
  refine WL_val gd0 ((o_assign (v := .bool false) rfl) _) rfl ?_
  refine WL_nil ?_
  refine nrm ?_
  refine WC_seq ?_
  refine WC_region ?_
  refine WL_val gd0 ((o_build (ps := [(0, .int .i64 0), (1, .int .i64 3), (2, .int .i64 5)]) (v := .agg #[.int .i64 0, .int .i64 3, .int .i64 5]) (partCons rfl (partCons rfl (partCons rfl partNil))) (fun w => by kernel_rfl)) _) rfl ?_
  refine WL_val gd0 ((o_build (ps := [(0, .int .i64 1), (1, .int .i64 3), (2, .int .i64 1)]) (v := .agg #[.int .i64 1, .int .i64 3, .int .i64 1]) (partCons rfl (partCons rfl (partCons rfl partNil))) (fun w => by kernel_rfl)) _) rfl ?_
  refine WL_val gd0 ((o_build (ps := [(0, .int .i64 2), (1, .int .i64 3), (2, .int .i64 1)]) (v := .agg #[.int .i64 2, .int .i64 3, .int .i64 1]) (partCons rfl (partCons rfl (partCons rfl partNil))) (fun w => by kernel_rfl)) _) rfl ?_
  refine WL_val gd0 ((o_build (ps := [(0, .int .i64 4), (1, .int .i64 1), (2, .int .i64 1)]) (v := .agg #[.int .i64 4, .int .i64 1, .int .i64 1]) (partCons rfl (partCons rfl (partCons rfl partNil))) (fun w => by kernel_rfl)) _) rfl ?_
  have h := New.out h
  refine WL_val gd0 (o_buildSlice (e := 35) (ps := [(0, .agg #[.int .i64 0, .int .i64 3, .int .i64 5]), (1, .agg #[.int .i64 1, .int .i64 3, .int .i64 1]), (2, .agg #[.int .i64 2, .int .i64 3, .int .i64 1]), (3, .agg #[.int .i64 4, .int .i64 1, .int .i64 1])]) (cs := [.int .i64 0, .int .i64 3, .int .i64 5, .int .i64 1, .int .i64 3, .int .i64 1, .int .i64 2, .int .i64 3, .int .i64 1, .int .i64 4, .int .i64 1, .int .i64 1]) (partCons rfl (partCons rfl (partCons rfl (partCons rfl partNil)))) (fun w => by kernel_rfl)) rfl ?_
  generalize hp2 : fresh w1 = p2 at h ⊢
  generalize hw3 : push w1 35 [.int .i64 0, .int .i64 3, .int .i64 5, .int .i64 1, .int .i64 3, .int .i64 1, .int .i64 2, .int .i64 3, .int .i64 1, .int .i64 4, .int .i64 1, .int .i64 1] = w3 at h ⊢
  try dsimp only at h
  refine WL_call gd0 (o_call Try.call8 (argCons rfl argNil) _) rfl (h.mono ?_)
  rintro _ w4 ⟨r5, r6, rfl, h⟩
  refine WL_val gd0 ((o_move (v := .tuple #[.pointer r5, .int .i64 r6]) rfl) _) rfl ?_
  refine WL_val gd0 ((o_extract (vs := [.pointer r5, .int .i64 r6]) (r := .pointer r5) rfl rfl) _) rfl ?_
  refine WL_val gd0 ((o_extract (vs := [.pointer r5, .int .i64 r6]) (r := .int .i64 r6) rfl rfl) _) rfl ?_
  refine WL_val gd0 ((o_assign (v := .pointer r5) rfl) _) rfl ?_
  refine WL_val gd0 ((o_assign (v := .int .i64 r6) rfl) _) rfl ?_
  refine WL_nil ?_
  refine nrm ?_
  refine WC_seq ?_
  refine WC_region ?_
  have h := New.out h
  refine WL_val gd0 (o_buildSlice (e := 3) (ps := [(0, .int .i64 0), (1, .int .i64 0), (2, .int .i64 1), (3, .int .i64 0), (4, .int .i64 2), (5, .int .i64 0), (6, .int .i64 0)]) (cs := [.int .i64 0, .int .i64 0, .int .i64 1, .int .i64 0, .int .i64 2, .int .i64 0, .int .i64 0]) (partCons rfl (partCons rfl (partCons rfl (partCons rfl (partCons rfl (partCons rfl (partCons rfl partNil))))))) (fun w => by kernel_rfl)) rfl ?_
  generalize hp7 : fresh w4 = p7 at h ⊢
  generalize hw8 : push w4 3 [.int .i64 0, .int .i64 0, .int .i64 1, .int .i64 0, .int .i64 2, .int .i64 0, .int .i64 0] = w8 at h ⊢
  try dsimp only at h
  refine WL_val gd0 ((o_assign (v := .slice (some p7) 7 7) rfl) _) rfl ?_
  refine WL_nil ?_
  refine nrm ?_
  refine WC_seq ?_
  refine WC_seq ?_
  refine WC_region ?_
  refine WL_val gd0 ((o_assign (v := .int .i64 0) rfl) _) rfl ?_
  refine WL_nil ?_
  refine nrm ?_
  refine WC_block ?_
  obtain ⟨J14, ⟨n14, h0⟩, hr14⟩ := h
  refine WC_loop (fun n ρ w' => ∃ (i13 : Int), ρ 4 = .int .i64 i13 ∧ ρ 1 = .pointer r5 ∧ ρ 2 = .int .i64 r6 ∧ ρ 3 = .slice (some p7) 7 7 ∧ J14 n i13 w') ⟨n14, _, rfl, rfl, rfl, rfl, h0⟩ ?_
  rintro n14 ρ w14 ⟨i13, e4_12, e1_9, e2_10, e3_11, h⟩
  have h : F7_b1 r5 p7 r6 i13 w14 k (fun x0 w => ∃ m, m < n14 ∧ J14 m x0 w) := hr14 n14 i13 w14 h
  unfold F7_b1 at h
  refine WC_seq ?_
  refine WC_seq ?_
  refine WC_region ?_
  refine WL_val gd0 ((o_move (v := .int .i64 i13) (by exact e4_12)) _) rfl ?_
  refine WL_val gd0 ((o_move (v := .slice (some p7) 7 7) (by exact e3_11)) _) rfl ?_
  refine WL_val gd0 ((o_len Try.underlying28 rfl) _) rfl ?_
  refine WL_val gd0 ((o_lss rfl rfl) _) rfl ?_
  refine WL_nil ?_
  refine nrm ?_
  refine WC_cond (t := (decide (i13 < (7 : Int)))) rfl (fun hb16 => ?_) (fun hb16 => ?_)
  · rw [if_pos (of_decide_eq_true hb16)] at h
    refine WC_skip ?_
    refine nrm ?_
    refine WC_seq ?_
    refine WC_block ?_
    refine WC_seq ?_
    refine WC_region ?_
    refine WL_val gd0 ((o_move (v := .pointer r5) (by exact e1_9)) _) rfl ?_
    have h := New.out h
    refine WL_val gd0 (o_buildSlice (e := 3) (ps := [(0, .int .i64 2), (1, .int .i64 1), (2, .int .i64 0)]) (cs := [.int .i64 2, .int .i64 1, .int .i64 0]) (partCons rfl (partCons rfl (partCons rfl partNil))) (fun w => by kernel_rfl)) rfl ?_
    generalize hp17 : fresh w14 = p17 at h ⊢
    generalize hw18 : push w14 3 [.int .i64 2, .int .i64 1, .int .i64 0] = w18 at h ⊢
    try dsimp only at h
    refine WL_call gd0 (o_call Try.call10 (argCons rfl (argCons rfl argNil)) _) rfl (h.mono ?_)
    rintro _ w19 ⟨r20, r21, rfl, h⟩
    refine WL_val gd0 ((o_move (v := .tuple #[.int .i64 r20, .bool r21]) rfl) _) rfl ?_
    refine WL_val gd0 ((o_extract (vs := [.int .i64 r20, .bool r21]) (r := .int .i64 r20) rfl rfl) _) rfl ?_
    refine WL_val gd0 ((o_extract (vs := [.int .i64 r20, .bool r21]) (r := .bool r21) rfl rfl) _) rfl ?_
    refine WL_val gd0 ((o_assign (v := .int .i64 r20) rfl) _) rfl ?_
    refine WL_val gd0 ((o_assign (v := .bool r21) rfl) _) rfl ?_
    refine WL_nil ?_
    refine nrm ?_
    refine WC_seq ?_
    refine WC_region ?_
    refine WL_val gd0 ((o_move (v := .int .i64 r20) rfl) _) rfl ?_
    refine WL_val gd0 ((o_move (v := .slice (some p7) 7 7) (by exact e3_11)) _) rfl ?_
    refine WL_val gd0 ((o_move (v := .int .i64 i13) (by exact e4_12)) _) rfl ?_
    obtain ⟨l22, u23, h⟩ := h
    refine WL_val gd0 ((o_indexAddr1 Try.underlying28 Try.sizeOf3 rfl rfl l22 u23) _) rfl ?_
    obtain ⟨x24, hc25, h⟩ := h
    refine WL_val gd0 (o_load Try.isAgg3 rfl hc25) rfl ?_
    refine WL_val gd0 ((o_neq rfl rfl) _) rfl ?_
    refine WL_val gd0 ((o_move (v := .bool (decide (r20 ≠ x24))) rfl) _) rfl ?_
    refine bsplit (decide (r20 ≠ x24)) (fun hb26 => ?_) (fun hb26 => ?_)
    · rw [if_pos (of_decide_eq_true hb26)] at h
      refine WL_skip (gdN (b := (decide (r20 ≠ x24))) 39 rfl rfl hb26) rfl ?_
      refine WL_skip (gdN (b := (decide (r20 ≠ x24))) 39 rfl rfl hb26) rfl ?_
      refine WL_val gd0 ((o_pickT (v := .bool true) rfl hb26 rfl) _) rfl ?_
      refine WL_nil ?_
      refine nrm ?_
      refine WC_cond (t := true) rfl (fun _ => ?_) (fun hx => by rw [(rfl : true = true)] at hx; cases hx)
      refine WC_seq ?_
      refine WC_region ?_
      refine WL_val gd0 ((o_assign (v := .bool false) rfl) _) rfl ?_
      refine WL_nil ?_
      refine nrm ?_
      refine WC_ret ?_
      refine rtB ?_
      refine rtT ?_
      refine rtT ?_
      refine rtB ?_
      refine rtT ?_
      refine rtE ?_
      exact gv1 rfl rfl h
    · rw [if_neg (of_decide_eq_false hb26)] at h
      refine WL_val (gdY (b := (decide (r20 ≠ x24))) 39 rfl rfl hb26) ((o_move (v := .bool r21) rfl) _) rfl ?_
      refine WL_val (gdY (b := (decide (r20 ≠ x24))) 39 rfl rfl hb26) ((o_not rfl) _) rfl ?_
      refine WL_val gd0 ((o_pickF (v := .bool (!r21)) rfl hb26 rfl) _) rfl ?_
      refine WL_nil ?_
      refine nrm ?_
      refine WC_cond (t := (!r21)) rfl (fun hb27 => ?_) (fun hb27 => ?_)
      · rw [if_pos hb27] at h
        refine WC_seq ?_
        refine WC_region ?_
        refine WL_val gd0 ((o_assign (v := .bool false) rfl) _) rfl ?_
        refine WL_nil ?_
        refine nrm ?_
        refine WC_ret ?_
        refine rtB ?_
        refine rtT ?_
        refine rtT ?_
        refine rtB ?_
        refine rtT ?_
        refine rtE ?_
        exact gv1 rfl rfl h
      · rw [if_neg (neT hb27)] at h
        refine WC_skip ?_
        refine nrmB ?_
        refine nrm ?_
        refine WC_region ?_
        refine WL_val gd0 ((o_move (v := .int .i64 i13) (by exact e4_12)) _) rfl ?_
        refine WL_val gd0 ((o_add rfl rfl) _) rfl ?_
        refine WL_val gd0 ((o_assign (v := .int .i64 (IntKind.i64.wrap (i13 + 1))) rfl) _) rfl ?_
        refine WL_nil ?_
        refine nrm ?_
        obtain ⟨m15, hm15, h⟩ := h
        exact ⟨m15, hm15, _, rfl, e1_9, e2_10, e3_11, h⟩
  · rw [if_neg (of_decide_eq_false hb16)] at h
    refine WC_exit ?_
    refine exT ?_
    refine exT ?_
    refine exB ?_
    refine nrm ?_
    refine WC_seq ?_
    refine WC_region ?_
    refine WL_val gd0 ((o_move (v := .pointer r5) (by exact e1_9)) _) rfl ?_
    have h := New.out h
    refine WL_val gd0 (o_buildSlice (e := 3) (ps := [(0, .int .i64 0), (1, .int .i64 4)]) (cs := [.int .i64 0, .int .i64 4]) (partCons rfl (partCons rfl partNil)) (fun w => by kernel_rfl)) rfl ?_
    generalize hp28 : fresh w14 = p28 at h ⊢
    generalize hw29 : push w14 3 [.int .i64 0, .int .i64 4] = w29 at h ⊢
    try dsimp only at h
    refine WL_call gd0 (o_call Try.call10 (argCons rfl (argCons rfl argNil)) _) rfl (h.mono ?_)
    rintro _ w30 ⟨r31, r32, rfl, h⟩
    refine WL_val gd0 ((o_move (v := .tuple #[.int .i64 r31, .bool r32]) rfl) _) rfl ?_
    refine WL_val gd0 ((o_extract (vs := [.int .i64 r31, .bool r32]) (r := .int .i64 r31) rfl rfl) _) rfl ?_
    refine WL_val gd0 ((o_extract (vs := [.int .i64 r31, .bool r32]) (r := .bool r32) rfl rfl) _) rfl ?_
    refine WL_val gd0 ((o_assign (v := .int .i64 r31) rfl) _) rfl ?_
    refine WL_val gd0 ((o_assign (v := .bool r32) rfl) _) rfl ?_
    refine WL_nil ?_
    refine nrm ?_
    refine WC_seq ?_
    refine WC_region ?_
    refine WL_val gd0 ((o_move (v := .pointer r5) (by exact e1_9)) _) rfl ?_
    have h := New.out h
    refine WL_val gd0 (o_buildSlice (e := 3) (ps := [(0, .int .i64 7)]) (cs := [.int .i64 7]) (partCons rfl partNil) (fun w => by kernel_rfl)) rfl ?_
    generalize hp33 : fresh w30 = p33 at h ⊢
    generalize hw34 : push w30 3 [.int .i64 7] = w34 at h ⊢
    try dsimp only at h
    refine WL_call gd0 (o_call Try.call10 (argCons rfl (argCons rfl argNil)) _) rfl (h.mono ?_)
    rintro _ w35 ⟨r36, r37, rfl, h⟩
    refine WL_val gd0 ((o_move (v := .tuple #[.int .i64 r36, .bool r37]) rfl) _) rfl ?_
    refine WL_val gd0 ((o_extract (vs := [.int .i64 r36, .bool r37]) (r := .int .i64 r36) rfl rfl) _) rfl ?_
    refine WL_val gd0 ((o_extract (vs := [.int .i64 r36, .bool r37]) (r := .bool r37) rfl rfl) _) rfl ?_
    refine WL_val gd0 ((o_assign (v := .int .i64 r36) rfl) _) rfl ?_
    refine WL_val gd0 ((o_assign (v := .bool r37) rfl) _) rfl ?_
    refine WL_nil ?_
    refine nrm ?_
    refine WC_seq ?_
    refine WC_region ?_
    refine WL_val gd0 ((o_move (v := .int .i64 r6) (by exact e2_10)) _) rfl ?_
    refine WL_val gd0 ((o_eql rfl rfl) _) rfl ?_
    refine WL_val gd0 ((o_move (v := .bool (decide (r6 = 0))) rfl) _) rfl ?_
    refine bsplit (decide (r6 = 0)) (fun hb38 => ?_) (fun hb38 => ?_)
    · rw [if_pos (of_decide_eq_true hb38)] at h
      refine WL_val (gdY (b := (decide (r6 = 0))) 57 rfl rfl hb38) ((o_move (v := .int .i64 r31) rfl) _) rfl ?_
      refine WL_val (gdY (b := (decide (r6 = 0))) 57 rfl rfl hb38) ((o_eql rfl rfl) _) rfl ?_
      refine WL_val gd0 ((o_pickT (v := .bool (decide (r31 = 4))) rfl hb38 rfl) _) rfl ?_
      refine WL_val gd0 ((o_move (v := .bool (decide (r31 = 4))) rfl) _) rfl ?_
      refine bsplit (decide (r31 = 4)) (fun hb39 => ?_) (fun hb39 => ?_)
      · rw [if_pos (of_decide_eq_true hb39)] at h
        refine WL_val (gdY (b := (decide (r31 = 4))) 61 rfl rfl hb39) ((o_move (v := .bool r32) rfl) _) rfl ?_
        refine WL_val gd0 ((o_pickT (v := .bool r32) rfl hb39 rfl) _) rfl ?_
        refine WL_val gd0 ((o_move (v := .bool r32) rfl) _) rfl ?_
        refine bsplit r32 (fun hb40 => ?_) (fun hb40 => ?_)
        · rw [if_pos hb40] at h
          refine WL_val (gdY (b := r32) 64 rfl rfl hb40) ((o_move (v := .bool r37) rfl) _) rfl ?_
          refine WL_val (gdY (b := r32) 64 rfl rfl hb40) ((o_not rfl) _) rfl ?_
          refine WL_val gd0 ((o_pickT (v := .bool (!r37)) rfl hb40 rfl) _) rfl ?_
          refine WL_val gd0 ((o_move (v := .bool (!r37)) rfl) _) rfl ?_
          refine bsplit (!r37) (fun hb41 => ?_) (fun hb41 => ?_)
          · rw [if_pos hb41] at h
            refine WL_val (gdY (b := (!r37)) 68 rfl rfl hb41) ((o_move (v := .pointer r5) (by exact e1_9)) _) rfl ?_
            refine WL_call (gdY (b := (!r37)) 68 rfl rfl hb41) (o_call Try.call11 (argCons rfl (argCons rfl argNil)) _) rfl (h.mono ?_)
            rintro _ w42 ⟨x43, rfl, h⟩
            refine WL_val (gdY (b := (!r37)) 68 rfl rfl hb41) ((o_eql rfl rfl) _) rfl ?_
            refine WL_val gd0 ((o_pickT (v := .bool (decide (x43 = 5))) rfl hb41 rfl) _) rfl ?_
            refine WL_val gd0 ((o_move (v := .bool (decide (x43 = 5))) rfl) _) rfl ?_
            refine bsplit (decide (x43 = 5)) (fun hb44 => ?_) (fun hb44 => ?_)
            · rw [if_pos (of_decide_eq_true hb44)] at h
              refine WL_val (gdY (b := (decide (x43 = 5))) 73 rfl rfl hb44) ((o_move (v := .pointer r5) (by exact e1_9)) _) rfl ?_
              refine WL_call (gdY (b := (decide (x43 = 5))) 73 rfl rfl hb44) (o_call Try.call11 (argCons rfl (argCons rfl argNil)) _) rfl (h.mono ?_)
              rintro _ w45 ⟨x46, rfl, h⟩
              refine WL_val (gdY (b := (decide (x43 = 5))) 73 rfl rfl hb44) ((o_eql rfl rfl) _) rfl ?_
              refine WL_val gd0 ((o_pickT (v := .bool (decide (x46 = 1))) rfl hb44 rfl) _) rfl ?_
              refine WL_val gd0 ((o_assign (v := .bool (decide (x46 = 1))) rfl) _) rfl ?_
              refine WL_nil ?_
              refine nrm ?_
              refine WC_ret ?_
              refine rtE ?_
              exact gv1 rfl rfl h
            · rw [if_neg (of_decide_eq_false hb44)] at h
              refine WL_skip (gdN (b := (decide (x43 = 5))) 73 rfl rfl hb44) rfl ?_
              refine WL_skip (gdN (b := (decide (x43 = 5))) 73 rfl rfl hb44) rfl ?_
              refine WL_skip (gdN (b := (decide (x43 = 5))) 73 rfl rfl hb44) rfl ?_
              refine WL_val gd0 ((o_pickF (v := .bool false) rfl hb44 rfl) _) rfl ?_
              refine WL_val gd0 ((o_assign (v := .bool false) rfl) _) rfl ?_
              refine WL_nil ?_
              refine nrm ?_
              refine WC_ret ?_
              refine rtE ?_
              exact gv1 rfl rfl h
          · rw [if_neg (neT hb41)] at h
            refine WL_skip (gdN (b := (!r37)) 68 rfl rfl hb41) rfl ?_
            refine WL_skip (gdN (b := (!r37)) 68 rfl rfl hb41) rfl ?_
            refine WL_skip (gdN (b := (!r37)) 68 rfl rfl hb41) rfl ?_
            refine WL_val gd0 ((o_pickF (v := .bool false) rfl hb41 rfl) _) rfl ?_
            refine WL_val gd0 ((o_move (v := .bool false) rfl) _) rfl ?_
            refine WL_skip (gdN (b := false) 73 rfl rfl rfl) rfl ?_
            refine WL_skip (gdN (b := false) 73 rfl rfl rfl) rfl ?_
            refine WL_skip (gdN (b := false) 73 rfl rfl rfl) rfl ?_
            refine WL_val gd0 ((o_pickF (v := .bool false) rfl rfl rfl) _) rfl ?_
            refine WL_val gd0 ((o_assign (v := .bool false) rfl) _) rfl ?_
            refine WL_nil ?_
            refine nrm ?_
            refine WC_ret ?_
            refine rtE ?_
            exact gv1 rfl rfl h
        · rw [if_neg (neT hb40)] at h
          refine WL_skip (gdN (b := r32) 64 rfl rfl hb40) rfl ?_
          refine WL_skip (gdN (b := r32) 64 rfl rfl hb40) rfl ?_
          refine WL_val gd0 ((o_pickF (v := .bool false) rfl hb40 rfl) _) rfl ?_
          refine WL_val gd0 ((o_move (v := .bool false) rfl) _) rfl ?_
          refine WL_skip (gdN (b := false) 68 rfl rfl rfl) rfl ?_
          refine WL_skip (gdN (b := false) 68 rfl rfl rfl) rfl ?_
          refine WL_skip (gdN (b := false) 68 rfl rfl rfl) rfl ?_
          refine WL_val gd0 ((o_pickF (v := .bool false) rfl rfl rfl) _) rfl ?_
          refine WL_val gd0 ((o_move (v := .bool false) rfl) _) rfl ?_
          refine WL_skip (gdN (b := false) 73 rfl rfl rfl) rfl ?_
          refine WL_skip (gdN (b := false) 73 rfl rfl rfl) rfl ?_
          refine WL_skip (gdN (b := false) 73 rfl rfl rfl) rfl ?_
          refine WL_val gd0 ((o_pickF (v := .bool false) rfl rfl rfl) _) rfl ?_
          refine WL_val gd0 ((o_assign (v := .bool false) rfl) _) rfl ?_
          refine WL_nil ?_
          refine nrm ?_
          refine WC_ret ?_
          refine rtE ?_
          exact gv1 rfl rfl h
      · rw [if_neg (of_decide_eq_false hb39)] at h
        refine WL_skip (gdN (b := (decide (r31 = 4))) 61 rfl rfl hb39) rfl ?_
        refine WL_val gd0 ((o_pickF (v := .bool false) rfl hb39 rfl) _) rfl ?_
        refine WL_val gd0 ((o_move (v := .bool false) rfl) _) rfl ?_
        refine WL_skip (gdN (b := false) 64 rfl rfl rfl) rfl ?_
        refine WL_skip (gdN (b := false) 64 rfl rfl rfl) rfl ?_
        refine WL_val gd0 ((o_pickF (v := .bool false) rfl rfl rfl) _) rfl ?_
        refine WL_val gd0 ((o_move (v := .bool false) rfl) _) rfl ?_
        refine WL_skip (gdN (b := false) 68 rfl rfl rfl) rfl ?_
        refine WL_skip (gdN (b := false) 68 rfl rfl rfl) rfl ?_
        refine WL_skip (gdN (b := false) 68 rfl rfl rfl) rfl ?_
        refine WL_val gd0 ((o_pickF (v := .bool false) rfl rfl rfl) _) rfl ?_
        refine WL_val gd0 ((o_move (v := .bool false) rfl) _) rfl ?_
        refine WL_skip (gdN (b := false) 73 rfl rfl rfl) rfl ?_
        refine WL_skip (gdN (b := false) 73 rfl rfl rfl) rfl ?_
        refine WL_skip (gdN (b := false) 73 rfl rfl rfl) rfl ?_
        refine WL_val gd0 ((o_pickF (v := .bool false) rfl rfl rfl) _) rfl ?_
        refine WL_val gd0 ((o_assign (v := .bool false) rfl) _) rfl ?_
        refine WL_nil ?_
        refine nrm ?_
        refine WC_ret ?_
        refine rtE ?_
        exact gv1 rfl rfl h
    · rw [if_neg (of_decide_eq_false hb38)] at h
      refine WL_skip (gdN (b := (decide (r6 = 0))) 57 rfl rfl hb38) rfl ?_
      refine WL_skip (gdN (b := (decide (r6 = 0))) 57 rfl rfl hb38) rfl ?_
      refine WL_val gd0 ((o_pickF (v := .bool false) rfl hb38 rfl) _) rfl ?_
      refine WL_val gd0 ((o_move (v := .bool false) rfl) _) rfl ?_
      refine WL_skip (gdN (b := false) 61 rfl rfl rfl) rfl ?_
      refine WL_val gd0 ((o_pickF (v := .bool false) rfl rfl rfl) _) rfl ?_
      refine WL_val gd0 ((o_move (v := .bool false) rfl) _) rfl ?_
      refine WL_skip (gdN (b := false) 64 rfl rfl rfl) rfl ?_
      refine WL_skip (gdN (b := false) 64 rfl rfl rfl) rfl ?_
      refine WL_val gd0 ((o_pickF (v := .bool false) rfl rfl rfl) _) rfl ?_
      refine WL_val gd0 ((o_move (v := .bool false) rfl) _) rfl ?_
      refine WL_skip (gdN (b := false) 68 rfl rfl rfl) rfl ?_
      refine WL_skip (gdN (b := false) 68 rfl rfl rfl) rfl ?_
      refine WL_skip (gdN (b := false) 68 rfl rfl rfl) rfl ?_
      refine WL_val gd0 ((o_pickF (v := .bool false) rfl rfl rfl) _) rfl ?_
      refine WL_val gd0 ((o_move (v := .bool false) rfl) _) rfl ?_
      refine WL_skip (gdN (b := false) 73 rfl rfl rfl) rfl ?_
      refine WL_skip (gdN (b := false) 73 rfl rfl rfl) rfl ?_
      refine WL_skip (gdN (b := false) 73 rfl rfl rfl) rfl ?_
      refine WL_val gd0 ((o_pickF (v := .bool false) rfl rfl rfl) _) rfl ?_
      refine WL_val gd0 ((o_assign (v := .bool false) rfl) _) rfl ?_
      refine WL_nil ?_
      refine nrm ?_
      refine WC_ret ?_
      refine rtE ?_
      exact gv1 rfl rfl h

def F8_j2 (p25 : Addr) (p7 : Addr) (t13 : Int) (t35 : Bool) (w36 : World) (k : Value → World → Prop) (nx14 : Int → World → Prop) : Prop :=
  if t35 = true then
  k (.tuple #[.pointer none, .int .i64 1]) w36
else
  ∃ (x38 : Int), w36.cell? p25 = some (.int .i64 x38) ∧ Does Try.prog 16 #[.pointer (some p7), .int .i64 x38] w36 (fun v w40 => ∃ (x41 : Int), v = .int .i64 x41 ∧ if 0 ≤ x41 then
    k (.tuple #[.pointer none, .int .i64 9]) w40
  else
    ∃ (x_a43 : Option Addr) (x_n44 x_c45 : Nat), w40.drew.cell? p7 = some (.slice x_a43 x_n44 x_c45) ∧ ∃ (x47 x48 x49 : Int), Cells w40.drew p25 0 [.int .i64 x47, .int .i64 x48, .int .i64 x49] ∧ New w40.drew 52 [.int .i64 x47, .int .i64 x48, .int .i64 x49, .int .i64 0, .int .i64 0] (fun p51 w52 => w52.cell? p7 = some (.slice x_a43 x_n44 x_c45) ∧ ∃ (b_a54 : Option Addr) (b_n55 b_c56 : Nat) (w57 : World), (Builtin.append_ #[48, 48] 48 #[.slice x_a43 x_n44 x_c45, .slice (some p51) 1 1]).run Try.prog w52 = .ok (.slice b_a54 b_n55 b_c56) w57 ∧ Put w57 p7 (.slice b_a54 b_n55 b_c56) (fun w59 => nx14 (IntKind.i64.wrap (t13 + 1)) w59)))
def F8_b1 (l_n2 : Nat) (l_a1 : Option Addr) (p7 : Addr) (t13 : Int) (w14 : World) (k : Value → World → Prop) (nx14 : Int → World → Prop) : Prop :=
  if t13 < (l_n2 : Int) then
  ∃ (p19 : Addr), l_a1 = some p19 ∧ (0 : Int) ≤ t13 ∧ t13 < (l_n2 : Int) ∧ ∃ (x21 x22 x23 : Int), Cells w14 (p19.add (t13.toNat * 3)) 0 [.int .i64 x21, .int .i64 x22, .int .i64 x23] ∧ New w14 35 [.int .i64 0, .int .i64 0, .int .i64 0] (fun p25 w26 => PutAll w26 p25 [.int .i64 x21, .int .i64 x22, .int .i64 x23] (fun w27 => ∃ (x61 : Int), w27.cell? p25 = some (.int .i64 x61) ∧ if x61 < 0 then
    F8_j2 p25 p7 t13 true w27 k nx14
  else
    ∃ (x64 : Int), w27.cell? p25 = some (.int .i64 x64) ∧ if 7 < x64 then
      F8_j2 p25 p7 t13 true w27 k nx14
    else
      ∃ (x67 : Int), w27.cell? (p25.add 1) = some (.int .i64 x67) ∧ if x67 < 0 then
        F8_j2 p25 p7 t13 true w27 k nx14
      else
        ∃ (x70 : Int), w27.cell? (p25.add 1) = some (.int .i64 x70) ∧ if 15 < x70 then
          F8_j2 p25 p7 t13 true w27 k nx14
        else
          ∃ (x73 : Int), w27.cell? (p25.add 2) = some (.int .i64 x73) ∧ if x73 < 1 then
            F8_j2 p25 p7 t13 true w27 k nx14
          else
            ∃ (x76 : Int), w27.cell? (p25.add 2) = some (.int .i64 x76) ∧ F8_j2 p25 p7 t13 (decide (100 < x76)) w27 k nx14))
else
  k (.tuple #[.pointer (some p7), .int .i64 0]) w14
/-- spacecraft mux.New -/
def F8 (l_a1 : Option Addr) (l_n2 : Nat) (l_c3 : Nat) (w4 : World) (k : Value → World → Prop) : Prop :=
  New w4 52 [] (fun p5 w6 => New w6 50 [.slice (some p5) 0 0] (fun p7 w8 => LoopP (fun (s : Int) w' nx' => F8_b1 l_n2 l_a1 p7 s w' k (fun x0 w => nx' x0 w)) 0 w8))
set_option maxRecDepth 100000 in
set_option maxHeartbeats 2000000 in
theorem w8 (l_a1 : Option Addr) (l_n2 : Nat) (l_c3 : Nat) (w4 : World) (k : Value → World → Prop) (h : F8 l_a1 l_n2 l_c3 w4 k) : Does Try.prog 8 #[.slice l_a1 l_n2 l_c3] w4 k := by
  refine enter 62 Try.func8 rfl rfl rfl ?_
  intro ρ hρ
  have e0 := hρ 0 _ rfl
  unfold F8 at h
  refine WC_seq ?_
  refine WC_region ?_
  refine WL_val gd0 ((o_assign (v := .pointer none) rfl) _) rfl ?_
  refine WL_val gd0 ((o_assign (v := .int .i64 0) rfl) _) rfl ?_
  refine WL_nil ?_
  refine nrm ?_
  refine WC_seq ?_
  refine WC_region ?_
  have h := New.out h
  refine WL_val gd0 (o_buildSlice (e := 52) (ps := []) (cs := []) partNil (fun w => by kernel_rfl)) rfl ?_
  generalize hp5 : fresh w4 = p5 at h ⊢
  generalize hw6 : push w4 52 [] = w6 at h ⊢
  try dsimp only at h
  refine WL_val gd0 ((o_build (ps := [(0, .slice (some p5) 0 0)]) (v := .agg #[.slice (some p5) 0 0]) (partCons rfl partNil) (fun w => by kernel_rfl)) _) rfl ?_
  have h := New.out h
  refine WL_val gd0 (o_box (v := .agg #[.slice (some p5) 0 0]) (cs := [.slice (some p5) 0 0]) rfl rfl) rfl ?_
  generalize hp7 : fresh w6 = p7 at h ⊢
  generalize hw8 : push w6 50 [.slice (some p5) 0 0] = w8 at h ⊢
  try dsimp only at h
  refine WL_val gd0 ((o_assign (v := .pointer (some p7)) rfl) _) rfl ?_
  refine WL_nil ?_
  refine nrm ?_
  refine WC_seq ?_
  refine WC_seq ?_
  refine WC_region ?_
  refine WL_val gd0 ((o_move (v := .slice l_a1 l_n2 l_c3) (by exact e0)) _) rfl ?_
  refine WL_val gd0 ((o_len Try.underlying22 rfl) _) rfl ?_
  refine WL_val gd0 ((o_move (v := .int .i64 0) rfl) _) rfl ?_
  refine WL_nil ?_
  refine nrm ?_
  refine WC_block ?_
  obtain ⟨J14, ⟨n14, h0⟩, hr14⟩ := h
  refine WC_loop (fun n ρ w' => ∃ (t13 : Int), ρ 12 = .int .i64 t13 ∧ ρ 4 = .pointer (some p7) ∧ ρ 10 = .slice l_a1 l_n2 l_c3 ∧ ρ 11 = .int .i64 (l_n2 : Int) ∧ J14 n t13 w') ⟨n14, _, rfl, rfl, rfl, rfl, h0⟩ ?_
  rintro n14 ρ w14 ⟨t13, e12_12, e4_9, e10_10, e11_11, h⟩
  have h : F8_b1 l_n2 l_a1 p7 t13 w14 k (fun x0 w => ∃ m, m < n14 ∧ J14 m x0 w) := hr14 n14 t13 w14 h
  unfold F8_b1 at h
  refine WC_seq ?_
  refine WC_region ?_
  refine WL_val gd0 ((o_lss (by exact e12_12) (by exact e11_11)) _) rfl ?_
  refine WL_nil ?_
  refine nrm ?_
  refine WC_seq ?_
  refine WC_cond (t := (decide (t13 < (l_n2 : Int)))) rfl (fun hb16 => ?_) (fun hb16 => ?_)
  · rw [if_pos (of_decide_eq_true hb16)] at h
    refine WC_skip ?_
    refine nrm ?_
    refine WC_seq ?_
    refine WC_block ?_
    refine WC_seq ?_
    refine WC_region ?_
    obtain ⟨p19, q20, h⟩ := h
    obtain ⟨l17, u18, h⟩ := h
    refine WL_val gd0 ((o_indexAddr Try.underlying22 Try.sizeOf35 (by exact (Eq.trans e10_10 (congrArg (fun z => Value.slice z l_n2 l_c3) q20))) (by exact e12_12) l17 u18) _) rfl ?_
    obtain ⟨x21, x22, x23, hc24, h⟩ := h
    refine WL_val gd0 (o_loadAgg (vs := [.int .i64 x21, .int .i64 x22, .int .i64 x23]) Try.isAgg35 Try.sizeOf35 rfl hc24) rfl ?_
    have h := New.out h
    refine WL_val gd0 (o_alloc (z := .agg #[.int .i64 0, .int .i64 0, .int .i64 0]) (cs := [.int .i64 0, .int .i64 0, .int .i64 0]) Try.zeroValue35 rfl) rfl ?_
    generalize hp25 : fresh w14 = p25 at h ⊢
    generalize hw26 : push w14 35 [.int .i64 0, .int .i64 0, .int .i64 0] = w26 at h ⊢
    try dsimp only at h
    obtain ⟨c28, h⟩ := h
    refine WL_act gd0 (o_storeAgg (vs := [.int .i64 x21, .int .i64 x22, .int .i64 x23]) Try.sizeOf35 rfl rfl rfl c28) ?_
    generalize hw27 : setAll w26 p25 0 [.int .i64 x21, .int .i64 x22, .int .i64 x23] = w27 at h ⊢
    try dsimp only at h
    refine WL_nil ?_
    refine nrm ?_
    refine WC_seq ?_
    refine WC_cut (fun ρ w' => ∃ (t35 : Bool), ρ 43 = .bool t35 ∧ ρ 4 = .pointer (some p7) ∧ ρ 6 = .pointer (some p25) ∧ ρ 10 = .slice l_a1 l_n2 l_c3 ∧ ρ 11 = .int .i64 (l_n2 : Int) ∧ ρ 12 = .int .i64 t13 ∧ F8_j2 p25 p7 t13 t35 w' k (fun x0 w => ∃ m, m < n14 ∧ J14 m x0 w)) ?_ ?_
    · refine WC_region ?_
      refine WL_val gd0 ((o_fieldAddr0 Try.underlying35 rfl Try.sizeOf3 rfl rfl rfl) _) rfl ?_
      obtain ⟨x61, hc62, h⟩ := h
      refine WL_val gd0 (o_load Try.isAgg3 rfl hc62) rfl ?_
      refine WL_val gd0 ((o_lss rfl rfl) _) rfl ?_
      refine WL_val gd0 ((o_move (v := .bool (decide (x61 < 0))) rfl) _) rfl ?_
      refine bsplit (decide (x61 < 0)) (fun hb63 => ?_) (fun hb63 => ?_)
      · rw [if_pos (of_decide_eq_true hb63)] at h
        refine WL_skip (gdN (b := (decide (x61 < 0))) 19 rfl rfl hb63) rfl ?_
        refine WL_skip (gdN (b := (decide (x61 < 0))) 19 rfl rfl hb63) rfl ?_
        refine WL_skip (gdN (b := (decide (x61 < 0))) 19 rfl rfl hb63) rfl ?_
        refine WL_val gd0 ((o_pickT (v := .bool true) rfl hb63 rfl) _) rfl ?_
        refine WL_val gd0 ((o_move (v := .bool true) rfl) _) rfl ?_
        refine WL_skip (gdN (b := true) 24 rfl rfl rfl) rfl ?_
        refine WL_skip (gdN (b := true) 24 rfl rfl rfl) rfl ?_
        refine WL_skip (gdN (b := true) 24 rfl rfl rfl) rfl ?_
        refine WL_val gd0 ((o_pickT (v := .bool true) rfl rfl rfl) _) rfl ?_
        refine WL_val gd0 ((o_move (v := .bool true) rfl) _) rfl ?_
        refine WL_skip (gdN (b := true) 29 rfl rfl rfl) rfl ?_
        refine WL_skip (gdN (b := true) 29 rfl rfl rfl) rfl ?_
        refine WL_skip (gdN (b := true) 29 rfl rfl rfl) rfl ?_
        refine WL_val gd0 ((o_pickT (v := .bool true) rfl rfl rfl) _) rfl ?_
        refine WL_val gd0 ((o_move (v := .bool true) rfl) _) rfl ?_
        refine WL_skip (gdN (b := true) 34 rfl rfl rfl) rfl ?_
        refine WL_skip (gdN (b := true) 34 rfl rfl rfl) rfl ?_
        refine WL_skip (gdN (b := true) 34 rfl rfl rfl) rfl ?_
        refine WL_val gd0 ((o_pickT (v := .bool true) rfl rfl rfl) _) rfl ?_
        refine WL_val gd0 ((o_move (v := .bool true) rfl) _) rfl ?_
        refine WL_skip (gdN (b := true) 39 rfl rfl rfl) rfl ?_
        refine WL_skip (gdN (b := true) 39 rfl rfl rfl) rfl ?_
        refine WL_skip (gdN (b := true) 39 rfl rfl rfl) rfl ?_
        refine WL_val gd0 ((o_pickT (v := .bool true) rfl rfl rfl) _) rfl ?_
        refine WL_nil ?_
        refine nrm ?_
        exact ⟨_, rfl, e4_9, rfl, e10_10, e11_11, e12_12, h⟩
      · rw [if_neg (of_decide_eq_false hb63)] at h
        refine WL_val (gdY (b := (decide (x61 < 0))) 19 rfl rfl hb63) ((o_fieldAddr0 Try.underlying35 rfl Try.sizeOf3 rfl rfl rfl) _) rfl ?_
        obtain ⟨x64, hc65, h⟩ := h
        refine WL_val (gdY (b := (decide (x61 < 0))) 19 rfl rfl hb63) (o_load Try.isAgg3 rfl hc65) rfl ?_
        refine WL_val (gdY (b := (decide (x61 < 0))) 19 rfl rfl hb63) ((o_gtr rfl rfl) _) rfl ?_
        refine WL_val gd0 ((o_pickF (v := .bool (decide (7 < x64))) rfl hb63 rfl) _) rfl ?_
        refine WL_val gd0 ((o_move (v := .bool (decide (7 < x64))) rfl) _) rfl ?_
        refine bsplit (decide (7 < x64)) (fun hb66 => ?_) (fun hb66 => ?_)
        · rw [if_pos (of_decide_eq_true hb66)] at h
          refine WL_skip (gdN (b := (decide (7 < x64))) 24 rfl rfl hb66) rfl ?_
          refine WL_skip (gdN (b := (decide (7 < x64))) 24 rfl rfl hb66) rfl ?_
          refine WL_skip (gdN (b := (decide (7 < x64))) 24 rfl rfl hb66) rfl ?_
          refine WL_val gd0 ((o_pickT (v := .bool true) rfl hb66 rfl) _) rfl ?_
          refine WL_val gd0 ((o_move (v := .bool true) rfl) _) rfl ?_
          refine WL_skip (gdN (b := true) 29 rfl rfl rfl) rfl ?_
          refine WL_skip (gdN (b := true) 29 rfl rfl rfl) rfl ?_
          refine WL_skip (gdN (b := true) 29 rfl rfl rfl) rfl ?_
          refine WL_val gd0 ((o_pickT (v := .bool true) rfl rfl rfl) _) rfl ?_
          refine WL_val gd0 ((o_move (v := .bool true) rfl) _) rfl ?_
          refine WL_skip (gdN (b := true) 34 rfl rfl rfl) rfl ?_
          refine WL_skip (gdN (b := true) 34 rfl rfl rfl) rfl ?_
          refine WL_skip (gdN (b := true) 34 rfl rfl rfl) rfl ?_
          refine WL_val gd0 ((o_pickT (v := .bool true) rfl rfl rfl) _) rfl ?_
          refine WL_val gd0 ((o_move (v := .bool true) rfl) _) rfl ?_
          refine WL_skip (gdN (b := true) 39 rfl rfl rfl) rfl ?_
          refine WL_skip (gdN (b := true) 39 rfl rfl rfl) rfl ?_
          refine WL_skip (gdN (b := true) 39 rfl rfl rfl) rfl ?_
          refine WL_val gd0 ((o_pickT (v := .bool true) rfl rfl rfl) _) rfl ?_
          refine WL_nil ?_
          refine nrm ?_
          exact ⟨_, rfl, e4_9, rfl, e10_10, e11_11, e12_12, h⟩
        · rw [if_neg (of_decide_eq_false hb66)] at h
          refine WL_val (gdY (b := (decide (7 < x64))) 24 rfl rfl hb66) ((o_fieldAddr 1 Try.underlying35 rfl Try.sizeOf3 rfl rfl rfl) _) rfl ?_
          obtain ⟨x67, hc68, h⟩ := h
          refine WL_val (gdY (b := (decide (7 < x64))) 24 rfl rfl hb66) (o_load Try.isAgg3 rfl hc68) rfl ?_
          refine WL_val (gdY (b := (decide (7 < x64))) 24 rfl rfl hb66) ((o_lss rfl rfl) _) rfl ?_
          refine WL_val gd0 ((o_pickF (v := .bool (decide (x67 < 0))) rfl hb66 rfl) _) rfl ?_
          refine WL_val gd0 ((o_move (v := .bool (decide (x67 < 0))) rfl) _) rfl ?_
          refine bsplit (decide (x67 < 0)) (fun hb69 => ?_) (fun hb69 => ?_)
          · rw [if_pos (of_decide_eq_true hb69)] at h
            refine WL_skip (gdN (b := (decide (x67 < 0))) 29 rfl rfl hb69) rfl ?_
            refine WL_skip (gdN (b := (decide (x67 < 0))) 29 rfl rfl hb69) rfl ?_
            refine WL_skip (gdN (b := (decide (x67 < 0))) 29 rfl rfl hb69) rfl ?_
            refine WL_val gd0 ((o_pickT (v := .bool true) rfl hb69 rfl) _) rfl ?_
            refine WL_val gd0 ((o_move (v := .bool true) rfl) _) rfl ?_
            refine WL_skip (gdN (b := true) 34 rfl rfl rfl) rfl ?_
            refine WL_skip (gdN (b := true) 34 rfl rfl rfl) rfl ?_
            refine WL_skip (gdN (b := true) 34 rfl rfl rfl) rfl ?_
            refine WL_val gd0 ((o_pickT (v := .bool true) rfl rfl rfl) _) rfl ?_
            refine WL_val gd0 ((o_move (v := .bool true) rfl) _) rfl ?_
            refine WL_skip (gdN (b := true) 39 rfl rfl rfl) rfl ?_
            refine WL_skip (gdN (b := true) 39 rfl rfl rfl) rfl ?_
            refine WL_skip (gdN (b := true) 39 rfl rfl rfl) rfl ?_
            refine WL_val gd0 ((o_pickT (v := .bool true) rfl rfl rfl) _) rfl ?_
            refine WL_nil ?_
            refine nrm ?_
            exact ⟨_, rfl, e4_9, rfl, e10_10, e11_11, e12_12, h⟩
          · rw [if_neg (of_decide_eq_false hb69)] at h
            refine WL_val (gdY (b := (decide (x67 < 0))) 29 rfl rfl hb69) ((o_fieldAddr 1 Try.underlying35 rfl Try.sizeOf3 rfl rfl rfl) _) rfl ?_
            obtain ⟨x70, hc71, h⟩ := h
            refine WL_val (gdY (b := (decide (x67 < 0))) 29 rfl rfl hb69) (o_load Try.isAgg3 rfl hc71) rfl ?_
            refine WL_val (gdY (b := (decide (x67 < 0))) 29 rfl rfl hb69) ((o_gtr rfl rfl) _) rfl ?_
            refine WL_val gd0 ((o_pickF (v := .bool (decide (15 < x70))) rfl hb69 rfl) _) rfl ?_
            refine WL_val gd0 ((o_move (v := .bool (decide (15 < x70))) rfl) _) rfl ?_
            refine bsplit (decide (15 < x70)) (fun hb72 => ?_) (fun hb72 => ?_)
            · rw [if_pos (of_decide_eq_true hb72)] at h
              refine WL_skip (gdN (b := (decide (15 < x70))) 34 rfl rfl hb72) rfl ?_
              refine WL_skip (gdN (b := (decide (15 < x70))) 34 rfl rfl hb72) rfl ?_
              refine WL_skip (gdN (b := (decide (15 < x70))) 34 rfl rfl hb72) rfl ?_
              refine WL_val gd0 ((o_pickT (v := .bool true) rfl hb72 rfl) _) rfl ?_
              refine WL_val gd0 ((o_move (v := .bool true) rfl) _) rfl ?_
              refine WL_skip (gdN (b := true) 39 rfl rfl rfl) rfl ?_
              refine WL_skip (gdN (b := true) 39 rfl rfl rfl) rfl ?_
              refine WL_skip (gdN (b := true) 39 rfl rfl rfl) rfl ?_
              refine WL_val gd0 ((o_pickT (v := .bool true) rfl rfl rfl) _) rfl ?_
              refine WL_nil ?_
              refine nrm ?_
              exact ⟨_, rfl, e4_9, rfl, e10_10, e11_11, e12_12, h⟩
            · rw [if_neg (of_decide_eq_false hb72)] at h
              refine WL_val (gdY (b := (decide (15 < x70))) 34 rfl rfl hb72) ((o_fieldAddr 2 Try.underlying35 rfl Try.sizeOf3 rfl rfl rfl) _) rfl ?_
              obtain ⟨x73, hc74, h⟩ := h
              refine WL_val (gdY (b := (decide (15 < x70))) 34 rfl rfl hb72) (o_load Try.isAgg3 rfl hc74) rfl ?_
              refine WL_val (gdY (b := (decide (15 < x70))) 34 rfl rfl hb72) ((o_lss rfl rfl) _) rfl ?_
              refine WL_val gd0 ((o_pickF (v := .bool (decide (x73 < 1))) rfl hb72 rfl) _) rfl ?_
              refine WL_val gd0 ((o_move (v := .bool (decide (x73 < 1))) rfl) _) rfl ?_
              refine bsplit (decide (x73 < 1)) (fun hb75 => ?_) (fun hb75 => ?_)
              · rw [if_pos (of_decide_eq_true hb75)] at h
                refine WL_skip (gdN (b := (decide (x73 < 1))) 39 rfl rfl hb75) rfl ?_
                refine WL_skip (gdN (b := (decide (x73 < 1))) 39 rfl rfl hb75) rfl ?_
                refine WL_skip (gdN (b := (decide (x73 < 1))) 39 rfl rfl hb75) rfl ?_
                refine WL_val gd0 ((o_pickT (v := .bool true) rfl hb75 rfl) _) rfl ?_
                refine WL_nil ?_
                refine nrm ?_
                exact ⟨_, rfl, e4_9, rfl, e10_10, e11_11, e12_12, h⟩
              · rw [if_neg (of_decide_eq_false hb75)] at h
                refine WL_val (gdY (b := (decide (x73 < 1))) 39 rfl rfl hb75) ((o_fieldAddr 2 Try.underlying35 rfl Try.sizeOf3 rfl rfl rfl) _) rfl ?_
                obtain ⟨x76, hc77, h⟩ := h
                refine WL_val (gdY (b := (decide (x73 < 1))) 39 rfl rfl hb75) (o_load Try.isAgg3 rfl hc77) rfl ?_
                refine WL_val (gdY (b := (decide (x73 < 1))) 39 rfl rfl hb75) ((o_gtr rfl rfl) _) rfl ?_
                refine WL_val gd0 ((o_pickF (v := .bool (decide (100 < x76))) rfl hb75 rfl) _) rfl ?_
                refine WL_nil ?_
                refine nrm ?_
                exact ⟨_, rfl, e4_9, rfl, e10_10, e11_11, e12_12, h⟩
    · rintro ρ w36 ⟨t35, e43_34, e4_29, e6_30, e10_31, e11_32, e12_33, h⟩
      unfold F8_j2 at h
      refine WC_cond (t := t35) (by exact e43_34) (fun hb37 => ?_) (fun hb37 => ?_)
      · rw [if_pos hb37] at h
        refine WC_seq ?_
        refine WC_region ?_
        refine WL_val gd0 ((o_assign (v := .pointer none) rfl) _) rfl ?_
        refine WL_val gd0 ((o_assign (v := .int .i64 1) rfl) _) rfl ?_
        refine WL_nil ?_
        refine nrm ?_
        refine WC_ret ?_
        refine rtT ?_
        refine rtB ?_
        refine rtT ?_
        refine rtT ?_
        refine rtB ?_
        refine rtT ?_
        refine rtE ?_
        exact gv2 rfl rfl rfl h
      · rw [if_neg (neT hb37)] at h
        refine WC_skip ?_
        refine nrm ?_
        refine WC_seq ?_
        refine WC_seq ?_
        refine WC_region ?_
        refine WL_val gd0 ((o_move (v := .pointer (some p7)) (by exact e4_29)) _) rfl ?_
        refine WL_val gd0 ((o_fieldAddr0 Try.underlying35 rfl Try.sizeOf3 rfl rfl (by exact e6_30)) _) rfl ?_
        obtain ⟨x38, hc39, h⟩ := h
        refine WL_val gd0 (o_load Try.isAgg3 rfl hc39) rfl ?_
        refine WL_call gd0 (o_call Try.call16 (argCons rfl (argCons rfl argNil)) _) rfl (h.mono ?_)
        rintro _ w40 ⟨x41, rfl, h⟩
        refine WL_val gd0 ((o_geq rfl rfl) _) rfl ?_
        refine WL_nil ?_
        refine nrm ?_
        refine WC_cond (t := (decide (0 ≤ x41))) rfl (fun hb42 => ?_) (fun hb42 => ?_)
        · rw [if_pos (of_decide_eq_true hb42)] at h
          refine WC_seq ?_
          refine WC_region ?_
          refine WL_val gd0 ((o_assign (v := .pointer none) rfl) _) rfl ?_
          refine WL_val gd0 ((o_assign (v := .int .i64 9) rfl) _) rfl ?_
          refine WL_nil ?_
          refine nrm ?_
          refine WC_ret ?_
          refine rtT ?_
          refine rtB ?_
          refine rtT ?_
          refine rtT ?_
          refine rtB ?_
          refine rtT ?_
          refine rtE ?_
          exact gv2 rfl rfl rfl h
        · rw [if_neg (of_decide_eq_false hb42)] at h
          refine WC_skip ?_
          refine nrm ?_
          refine WC_draws [7, 8, 11] (.look 0 (.look 1 (.look 2 (.look 3 (.look 4 (.look 5 (.look 6 (.act 7 (.act 8 (.look 9 (.look 10 (.act 11 .nil)))))))))))) Try.mixed (by kernel_rfl) ?_
          refine WQ_val rfl gd0 (o_move (v := .pointer (some p7)) (by exact e4_29)) rfl ?_
          refine WQ_val rfl gd0 (o_move (v := .pointer (some p7)) (by exact e4_29)) rfl ?_
          refine WQ_val rfl gd0 (o_nilCheck rfl) rfl ?_
          refine WQ_val rfl gd0 (o_fieldAddr0 Try.underlying50 rfl Try.sizeOf48 rfl rfl rfl) rfl ?_
          obtain ⟨x_a43, x_n44, x_c45, hc46, h⟩ := h
          refine WQ_look (fun w => w.cell? p7 = some (.slice x_a43 x_n44 x_c45)) rfl gd0 (fun w hc => (o_load Try.isAgg48 rfl hc)) hc46 rfl ?_
          obtain ⟨x47, x48, x49, hc50, h⟩ := h
          refine WQ_look (fun w => Cells w p25 0 [.int .i64 x47, .int .i64 x48, .int .i64 x49]) rfl gd0 (fun w hc => (o_loadAgg (vs := [.int .i64 x47, .int .i64 x48, .int .i64 x49]) Try.isAgg35 Try.sizeOf35 (by exact e6_30) hc)) hc50 rfl ?_
          refine WQ_val rfl gd0 (o_build (ps := [(0, .agg #[.int .i64 x47, .int .i64 x48, .int .i64 x49])]) (v := .agg #[.int .i64 x47, .int .i64 x48, .int .i64 x49, .int .i64 0, .int .i64 0]) (partCons rfl partNil) (fun w => by kernel_rfl)) rfl ?_
          have h := New.out h
          obtain ⟨hh53, h⟩ := h
          refine WQ_act rfl gd0 (o_buildSlice (e := 52) (ps := [(0, .agg #[.int .i64 x47, .int .i64 x48, .int .i64 x49, .int .i64 0, .int .i64 0])]) (cs := [.int .i64 x47, .int .i64 x48, .int .i64 x49, .int .i64 0, .int .i64 0]) (partCons rfl partNil) (fun w => by kernel_rfl)) rfl (by exact ⟨⟨trivial, fun _ => hh53⟩, depT (by kernel_rfl)⟩) ?_
          generalize hp51 : fresh w40.drew = p51 at h ⊢
          generalize hw52 : push w40.drew 52 [.int .i64 x47, .int .i64 x48, .int .i64 x49, .int .i64 0, .int .i64 0] = w52 at h ⊢
          try dsimp only at h
          obtain ⟨b_a54, b_n55, b_c56, w57, r58, h⟩ := h
          refine WQ_act rfl gd0 (o_append rfl rfl r58) rfl (by exact ⟨⟨trivial, depT (by kernel_rfl)⟩, depT (by kernel_rfl)⟩) ?_
          refine WQ_val rfl gd0 (o_nilCheck rfl) rfl ?_
          refine WQ_val rfl gd0 (o_fieldAddr0 Try.underlying50 rfl Try.sizeOf48 rfl rfl rfl) rfl ?_
          obtain ⟨c60, h⟩ := h
          refine WQ_do rfl gd0 (o_store (v := .slice b_a54 b_n55 b_c56) Try.sizeOf48 rfl rfl rfl c60) (by exact ⟨⟨trivial, depT (by kernel_rfl)⟩, depT (by kernel_rfl)⟩) ?_
          generalize hw59 : World.setCell w57 p7 (.slice b_a54 b_n55 b_c56) = w59 at h ⊢
          try dsimp only at h
          refine WQ_nil ?_
          refine nrmB ?_
          refine nrm ?_
          refine WC_region ?_
          refine WL_val gd0 ((o_add (by exact e12_33) rfl) _) rfl ?_
          refine WL_val gd0 ((o_move (v := .int .i64 (IntKind.i64.wrap (t13 + 1))) rfl) _) rfl ?_
          refine WL_nil ?_
          refine nrm ?_
          obtain ⟨m15, hm15, h⟩ := h
          exact ⟨m15, hm15, _, rfl, e4_29, e10_31, e11_32, h⟩
  · rw [if_neg (of_decide_eq_false hb16)] at h
    refine WC_exit ?_
    refine exT ?_
    refine exT ?_
    refine exB ?_
    refine nrm ?_
    refine WC_seq ?_
    refine WC_region ?_
    refine WL_val gd0 ((o_move (v := .pointer (some p7)) (by exact e4_9)) _) rfl ?_
    refine WL_val gd0 ((o_assign (v := .pointer (some p7)) rfl) _) rfl ?_
    refine WL_val gd0 ((o_assign (v := .int .i64 0) rfl) _) rfl ?_
    refine WL_nil ?_
    refine nrm ?_
    refine WC_ret ?_
    refine rtE ?_
    exact gv2 rfl rfl rfl h

def F9_b3 (i10 : Int) (l_n2 : Nat) (p16 : Addr) (p22 : Addr) (p5 : Addr) (j51 : Int) (w52 : World) (k : Value → World → Prop) (nx52 : Int → World → Prop) (nx11 : Int → World → Prop) : Prop :=
  if j51 < i10 then
  (0 : Int) ≤ j51 ∧ j51 < (l_n2 : Int) ∧ ∃ (x57 : Int), w52.drew.cell? (p16.add (j51.toNat * 3)) = some (.int .i64 x57) ∧ ∃ (x59 : Int), w52.drew.cell? p22 = some (.int .i64 x59) ∧ if x57 = x59 then
    PutAll w52.drew p5 [.slice none 0 0, .slice none 0 0, .slice none 0 0] (fun w62 => ∃ (r_a64 : Option Addr) (r_n65 r_c66 : Nat) (r_a67 : Option Addr) (r_n68 r_c69 : Nat) (r_a70 : Option Addr) (r_n71 r_c72 : Nat), Cells w62 p5 0 [.slice r_a64 r_n65 r_c66, .slice r_a67 r_n68 r_c69, .slice r_a70 r_n71 r_c72] ∧ k (.tuple #[.agg #[.slice r_a64 r_n65 r_c66, .slice r_a67 r_n68 r_c69, .slice r_a70 r_n71 r_c72], .int .i64 9]) w62)
  else
    nx52 (IntKind.i64.wrap (j51 + 1)) w52.drew
else
  nx11 (IntKind.i64.wrap (i10 + 1)) w52
def F9_j2 (p5 : Addr) (i10 : Int) (l_n2 : Nat) (p16 : Addr) (p22 : Addr) (t31 : Bool) (w32 : World) (k : Value → World → Prop) (nx11 : Int → World → Prop) : Prop :=
  if t31 = true then
  PutAll w32 p5 [.slice none 0 0, .slice none 0 0, .slice none 0 0] (fun w34 => ∃ (r_a36 : Option Addr) (r_n37 r_c38 : Nat) (r_a39 : Option Addr) (r_n40 r_c41 : Nat) (r_a42 : Option Addr) (r_n43 r_c44 : Nat), Cells w34 p5 0 [.slice r_a36 r_n37 r_c38, .slice r_a39 r_n40 r_c41, .slice r_a42 r_n43 r_c44] ∧ k (.tuple #[.agg #[.slice r_a36 r_n37 r_c38, .slice r_a39 r_n40 r_c41, .slice r_a42 r_n43 r_c44], .int .i64 1]) w34)
else
  LoopP (fun (s : Int) w' nx' => F9_b3 i10 l_n2 p16 p22 p5 s w' k (fun x0 w => nx' x0 w) nx11) 0 w32
def F9_b1 (l_n2 : Nat) (l_a1 : Option Addr) (p5 : Addr) (l_c3 : Nat) (i10 : Int) (w11 : World) (k : Value → World → Prop) (nx11 : Int → World → Prop) : Prop :=
  if i10 < (l_n2 : Int) then
  ∃ (p16 : Addr), l_a1 = some p16 ∧ (0 : Int) ≤ i10 ∧ i10 < (l_n2 : Int) ∧ ∃ (x18 x19 x20 : Int), Cells w11 (p16.add (i10.toNat * 3)) 0 [.int .i64 x18, .int .i64 x19, .int .i64 x20] ∧ New w11 35 [.int .i64 0, .int .i64 0, .int .i64 0] (fun p22 w23 => PutAll w23 p22 [.int .i64 x18, .int .i64 x19, .int .i64 x20] (fun w24 => ∃ (x74 : Int), w24.cell? p22 = some (.int .i64 x74) ∧ if x74 < 0 then
    F9_j2 p5 i10 l_n2 p16 p22 true w24 k nx11
  else
    ∃ (x77 : Int), w24.cell? p22 = some (.int .i64 x77) ∧ if 7 < x77 then
      F9_j2 p5 i10 l_n2 p16 p22 true w24 k nx11
    else
      ∃ (x80 : Int), w24.cell? (p22.add 1) = some (.int .i64 x80) ∧ if x80 < 0 then
        F9_j2 p5 i10 l_n2 p16 p22 true w24 k nx11
      else
        ∃ (x83 : Int), w24.cell? (p22.add 1) = some (.int .i64 x83) ∧ if 15 < x83 then
          F9_j2 p5 i10 l_n2 p16 p22 true w24 k nx11
        else
          ∃ (x86 : Int), w24.cell? (p22.add 2) = some (.int .i64 x86) ∧ if x86 < 1 then
            F9_j2 p5 i10 l_n2 p16 p22 true w24 k nx11
          else
            ∃ (x89 : Int), w24.cell? (p22.add 2) = some (.int .i64 x89) ∧ F9_j2 p5 i10 l_n2 p16 p22 (decide (100 < x89)) w24 k nx11))
else
  (New w11.drew 35 [] (fun p91 w92 => (∃ (b_a93 : Option Addr) (b_n94 b_c95 : Nat) (w96 : World), (Builtin.append_ #[22, 22] 22 #[.slice (some p91) 0 0, .slice l_a1 l_n2 l_c3]).run Try.prog w92 = .ok (.slice b_a93 b_n94 b_c95) w96 ∧ (∃ (b_a98 : Option Addr) (b_n99 b_c100 : Nat) (w101 : World), (Instr.makeSlice 28 (.int .i64 (l_n2 : Int)) (.int .i64 (l_n2 : Int))).run Try.prog w96 = .ok (.slice b_a98 b_n99 b_c100) w101 ∧ ∃ (b_a103 : Option Addr) (b_n104 b_c105 : Nat) (w106 : World), (Instr.makeSlice 28 (.int .i64 (l_n2 : Int)) (.int .i64 (l_n2 : Int))).run Try.prog w101 = .ok (.slice b_a103 b_n104 b_c105) w106 ∧ PutAll w106 p5 [.slice b_a93 b_n94 b_c95, .slice b_a98 b_n99 b_c100, .slice b_a103 b_n104 b_c105] (fun w108 => ∃ (r_a110 : Option Addr) (r_n111 r_c112 : Nat) (r_a113 : Option Addr) (r_n114 r_c115 : Nat) (r_a116 : Option Addr) (r_n117 r_c118 : Nat), Cells w108 p5 0 [.slice r_a110 r_n111 r_c112, .slice r_a113 r_n114 r_c115, .slice r_a116 r_n117 r_c118] ∧ k (.tuple #[.agg #[.slice r_a110 r_n111 r_c112, .slice r_a113 r_n114 r_c115, .slice r_a116 r_n117 r_c118], .int .i64 0]) w108)) ∧ (∃ (b_a120 : Option Addr) (b_n121 b_c122 : Nat) (w123 : World), (Instr.makeSlice 28 (.int .i64 (l_n2 : Int)) (.int .i64 (l_n2 : Int))).run Try.prog w96 = .ok (.slice b_a120 b_n121 b_c122) w123 ∧ ∃ (b_a125 : Option Addr) (b_n126 b_c127 : Nat) (w128 : World), (Instr.makeSlice 28 (.int .i64 (l_n2 : Int)) (.int .i64 (l_n2 : Int))).run Try.prog w123 = .ok (.slice b_a125 b_n126 b_c127) w128 ∧ PutAll w128 p5 [.slice b_a93 b_n94 b_c95, .slice b_a125 b_n126 b_c127, .slice b_a120 b_n121 b_c122] (fun w130 => ∃ (r_a132 : Option Addr) (r_n133 r_c134 : Nat) (r_a135 : Option Addr) (r_n136 r_c137 : Nat) (r_a138 : Option Addr) (r_n139 r_c140 : Nat), Cells w130 p5 0 [.slice r_a132 r_n133 r_c134, .slice r_a135 r_n136 r_c137, .slice r_a138 r_n139 r_c140] ∧ k (.tuple #[.agg #[.slice r_a132 r_n133 r_c134, .slice r_a135 r_n136 r_c137, .slice r_a138 r_n139 r_c140], .int .i64 0]) w130))) ∧ (∃ (b_a143 : Option Addr) (b_n144 b_c145 : Nat) (w146 : World), (Instr.makeSlice 28 (.int .i64 (l_n2 : Int)) (.int .i64 (l_n2 : Int))).run Try.prog w92 = .ok (.slice b_a143 b_n144 b_c145) w146 ∧ (∃ (b_a148 : Option Addr) (b_n149 b_c150 : Nat) (w151 : World), (Builtin.append_ #[22, 22] 22 #[.slice (some p91) 0 0, .slice l_a1 l_n2 l_c3]).run Try.prog w146 = .ok (.slice b_a148 b_n149 b_c150) w151 ∧ ∃ (b_a153 : Option Addr) (b_n154 b_c155 : Nat) (w156 : World), (Instr.makeSlice 28 (.int .i64 (l_n2 : Int)) (.int .i64 (l_n2 : Int))).run Try.prog w151 = .ok (.slice b_a153 b_n154 b_c155) w156 ∧ PutAll w156 p5 [.slice b_a148 b_n149 b_c150, .slice b_a143 b_n144 b_c145, .slice b_a153 b_n154 b_c155] (fun w158 => ∃ (r_a160 : Option Addr) (r_n161 r_c162 : Nat) (r_a163 : Option Addr) (r_n164 r_c165 : Nat) (r_a166 : Option Addr) (r_n167 r_c168 : Nat), Cells w158 p5 0 [.slice r_a160 r_n161 r_c162, .slice r_a163 r_n164 r_c165, .slice r_a166 r_n167 r_c168] ∧ k (.tuple #[.agg #[.slice r_a160 r_n161 r_c162, .slice r_a163 r_n164 r_c165, .slice r_a166 r_n167 r_c168], .int .i64 0]) w158)) ∧ (∃ (b_a170 : Option Addr) (b_n171 b_c172 : Nat) (w173 : World), (Instr.makeSlice 28 (.int .i64 (l_n2 : Int)) (.int .i64 (l_n2 : Int))).run Try.prog w146 = .ok (.slice b_a170 b_n171 b_c172) w173 ∧ ∃ (b_a175 : Option Addr) (b_n176 b_c177 : Nat) (w178 : World), (Builtin.append_ #[22, 22] 22 #[.slice (some p91) 0 0, .slice l_a1 l_n2 l_c3]).run Try.prog w173 = .ok (.slice b_a175 b_n176 b_c177) w178 ∧ PutAll w178 p5 [.slice b_a175 b_n176 b_c177, .slice b_a143 b_n144 b_c145, .slice b_a170 b_n171 b_c172] (fun w180 => ∃ (r_a182 : Option Addr) (r_n183 r_c184 : Nat) (r_a185 : Option Addr) (r_n186 r_c187 : Nat) (r_a188 : Option Addr) (r_n189 r_c190 : Nat), Cells w180 p5 0 [.slice r_a182 r_n183 r_c184, .slice r_a185 r_n186 r_c187, .slice r_a188 r_n189 r_c190] ∧ k (.tuple #[.agg #[.slice r_a182 r_n183 r_c184, .slice r_a185 r_n186 r_c187, .slice r_a188 r_n189 r_c190], .int .i64 0]) w180))) ∧ (∃ (b_a193 : Option Addr) (b_n194 b_c195 : Nat) (w196 : World), (Instr.makeSlice 28 (.int .i64 (l_n2 : Int)) (.int .i64 (l_n2 : Int))).run Try.prog w92 = .ok (.slice b_a193 b_n194 b_c195) w196 ∧ (∃ (b_a198 : Option Addr) (b_n199 b_c200 : Nat) (w201 : World), (Builtin.append_ #[22, 22] 22 #[.slice (some p91) 0 0, .slice l_a1 l_n2 l_c3]).run Try.prog w196 = .ok (.slice b_a198 b_n199 b_c200) w201 ∧ ∃ (b_a203 : Option Addr) (b_n204 b_c205 : Nat) (w206 : World), (Instr.makeSlice 28 (.int .i64 (l_n2 : Int)) (.int .i64 (l_n2 : Int))).run Try.prog w201 = .ok (.slice b_a203 b_n204 b_c205) w206 ∧ PutAll w206 p5 [.slice b_a198 b_n199 b_c200, .slice b_a203 b_n204 b_c205, .slice b_a193 b_n194 b_c195] (fun w208 => ∃ (r_a210 : Option Addr) (r_n211 r_c212 : Nat) (r_a213 : Option Addr) (r_n214 r_c215 : Nat) (r_a216 : Option Addr) (r_n217 r_c218 : Nat), Cells w208 p5 0 [.slice r_a210 r_n211 r_c212, .slice r_a213 r_n214 r_c215, .slice r_a216 r_n217 r_c218] ∧ k (.tuple #[.agg #[.slice r_a210 r_n211 r_c212, .slice r_a213 r_n214 r_c215, .slice r_a216 r_n217 r_c218], .int .i64 0]) w208)) ∧ (∃ (b_a220 : Option Addr) (b_n221 b_c222 : Nat) (w223 : World), (Instr.makeSlice 28 (.int .i64 (l_n2 : Int)) (.int .i64 (l_n2 : Int))).run Try.prog w196 = .ok (.slice b_a220 b_n221 b_c222) w223 ∧ ∃ (b_a225 : Option Addr) (b_n226 b_c227 : Nat) (w228 : World), (Builtin.append_ #[22, 22] 22 #[.slice (some p91) 0 0, .slice l_a1 l_n2 l_c3]).run Try.prog w223 = .ok (.slice b_a225 b_n226 b_c227) w228 ∧ PutAll w228 p5 [.slice b_a225 b_n226 b_c227, .slice b_a220 b_n221 b_c222, .slice b_a193 b_n194 b_c195] (fun w230 => ∃ (r_a232 : Option Addr) (r_n233 r_c234 : Nat) (r_a235 : Option Addr) (r_n236 r_c237 : Nat) (r_a238 : Option Addr) (r_n239 r_c240 : Nat), Cells w230 p5 0 [.slice r_a232 r_n233 r_c234, .slice r_a235 r_n236 r_c237, .slice r_a238 r_n239 r_c240] ∧ k (.tuple #[.agg #[.slice r_a232 r_n233 r_c234, .slice r_a235 r_n236 r_c237, .slice r_a238 r_n239 r_c240], .int .i64 0]) w230))))) ∧ (∃ (b_a245 : Option Addr) (b_n246 b_c247 : Nat) (w248 : World), (Instr.makeSlice 28 (.int .i64 (l_n2 : Int)) (.int .i64 (l_n2 : Int))).run Try.prog w11.drew = .ok (.slice b_a245 b_n246 b_c247) w248 ∧ (New w248 35 [] (fun p250 w251 => (∃ (b_a252 : Option Addr) (b_n253 b_c254 : Nat) (w255 : World), (Builtin.append_ #[22, 22] 22 #[.slice (some p250) 0 0, .slice l_a1 l_n2 l_c3]).run Try.prog w251 = .ok (.slice b_a252 b_n253 b_c254) w255 ∧ ∃ (b_a257 : Option Addr) (b_n258 b_c259 : Nat) (w260 : World), (Instr.makeSlice 28 (.int .i64 (l_n2 : Int)) (.int .i64 (l_n2 : Int))).run Try.prog w255 = .ok (.slice b_a257 b_n258 b_c259) w260 ∧ PutAll w260 p5 [.slice b_a252 b_n253 b_c254, .slice b_a245 b_n246 b_c247, .slice b_a257 b_n258 b_c259] (fun w262 => ∃ (r_a264 : Option Addr) (r_n265 r_c266 : Nat) (r_a267 : Option Addr) (r_n268 r_c269 : Nat) (r_a270 : Option Addr) (r_n271 r_c272 : Nat), Cells w262 p5 0 [.slice r_a264 r_n265 r_c266, .slice r_a267 r_n268 r_c269, .slice r_a270 r_n271 r_c272] ∧ k (.tuple #[.agg #[.slice r_a264 r_n265 r_c266, .slice r_a267 r_n268 r_c269, .slice r_a270 r_n271 r_c272], .int .i64 0]) w262)) ∧ (∃ (b_a274 : Option Addr) (b_n275 b_c276 : Nat) (w277 : World), (Instr.makeSlice 28 (.int .i64 (l_n2 : Int)) (.int .i64 (l_n2 : Int))).run Try.prog w251 = .ok (.slice b_a274 b_n275 b_c276) w277 ∧ ∃ (b_a279 : Option Addr) (b_n280 b_c281 : Nat) (w282 : World), (Builtin.append_ #[22, 22] 22 #[.slice (some p250) 0 0, .slice l_a1 l_n2 l_c3]).run Try.prog w277 = .ok (.slice b_a279 b_n280 b_c281) w282 ∧ PutAll w282 p5 [.slice b_a279 b_n280 b_c281, .slice b_a245 b_n246 b_c247, .slice b_a274 b_n275 b_c276] (fun w284 => ∃ (r_a286 : Option Addr) (r_n287 r_c288 : Nat) (r_a289 : Option Addr) (r_n290 r_c291 : Nat) (r_a292 : Option Addr) (r_n293 r_c294 : Nat), Cells w284 p5 0 [.slice r_a286 r_n287 r_c288, .slice r_a289 r_n290 r_c291, .slice r_a292 r_n293 r_c294] ∧ k (.tuple #[.agg #[.slice r_a286 r_n287 r_c288, .slice r_a289 r_n290 r_c291, .slice r_a292 r_n293 r_c294], .int .i64 0]) w284)))) ∧ (∃ (b_a297 : Option Addr) (b_n298 b_c299 : Nat) (w300 : World), (Instr.makeSlice 28 (.int .i64 (l_n2 : Int)) (.int .i64 (l_n2 : Int))).run Try.prog w248 = .ok (.slice b_a297 b_n298 b_c299) w300 ∧ New w300 35 [] (fun p302 w303 => ∃ (b_a304 : Option Addr) (b_n305 b_c306 : Nat) (w307 : World), (Builtin.append_ #[22, 22] 22 #[.slice (some p302) 0 0, .slice l_a1 l_n2 l_c3]).run Try.prog w303 = .ok (.slice b_a304 b_n305 b_c306) w307 ∧ PutAll w307 p5 [.slice b_a304 b_n305 b_c306, .slice b_a245 b_n246 b_c247, .slice b_a297 b_n298 b_c299] (fun w309 => ∃ (r_a311 : Option Addr) (r_n312 r_c313 : Nat) (r_a314 : Option Addr) (r_n315 r_c316 : Nat) (r_a317 : Option Addr) (r_n318 r_c319 : Nat), Cells w309 p5 0 [.slice r_a311 r_n312 r_c313, .slice r_a314 r_n315 r_c316, .slice r_a317 r_n318 r_c319] ∧ k (.tuple #[.agg #[.slice r_a311 r_n312 r_c313, .slice r_a314 r_n315 r_c316, .slice r_a317 r_n318 r_c319], .int .i64 0]) w309)))) ∧ (∃ (b_a322 : Option Addr) (b_n323 b_c324 : Nat) (w325 : World), (Instr.makeSlice 28 (.int .i64 (l_n2 : Int)) (.int .i64 (l_n2 : Int))).run Try.prog w11.drew = .ok (.slice b_a322 b_n323 b_c324) w325 ∧ (New w325 35 [] (fun p327 w328 => (∃ (b_a329 : Option Addr) (b_n330 b_c331 : Nat) (w332 : World), (Builtin.append_ #[22, 22] 22 #[.slice (some p327) 0 0, .slice l_a1 l_n2 l_c3]).run Try.prog w328 = .ok (.slice b_a329 b_n330 b_c331) w332 ∧ ∃ (b_a334 : Option Addr) (b_n335 b_c336 : Nat) (w337 : World), (Instr.makeSlice 28 (.int .i64 (l_n2 : Int)) (.int .i64 (l_n2 : Int))).run Try.prog w332 = .ok (.slice b_a334 b_n335 b_c336) w337 ∧ PutAll w337 p5 [.slice b_a329 b_n330 b_c331, .slice b_a334 b_n335 b_c336, .slice b_a322 b_n323 b_c324] (fun w339 => ∃ (r_a341 : Option Addr) (r_n342 r_c343 : Nat) (r_a344 : Option Addr) (r_n345 r_c346 : Nat) (r_a347 : Option Addr) (r_n348 r_c349 : Nat), Cells w339 p5 0 [.slice r_a341 r_n342 r_c343, .slice r_a344 r_n345 r_c346, .slice r_a347 r_n348 r_c349] ∧ k (.tuple #[.agg #[.slice r_a341 r_n342 r_c343, .slice r_a344 r_n345 r_c346, .slice r_a347 r_n348 r_c349], .int .i64 0]) w339)) ∧ (∃ (b_a351 : Option Addr) (b_n352 b_c353 : Nat) (w354 : World), (Instr.makeSlice 28 (.int .i64 (l_n2 : Int)) (.int .i64 (l_n2 : Int))).run Try.prog w328 = .ok (.slice b_a351 b_n352 b_c353) w354 ∧ ∃ (b_a356 : Option Addr) (b_n357 b_c358 : Nat) (w359 : World), (Builtin.append_ #[22, 22] 22 #[.slice (some p327) 0 0, .slice l_a1 l_n2 l_c3]).run Try.prog w354 = .ok (.slice b_a356 b_n357 b_c358) w359 ∧ PutAll w359 p5 [.slice b_a356 b_n357 b_c358, .slice b_a351 b_n352 b_c353, .slice b_a322 b_n323 b_c324] (fun w361 => ∃ (r_a363 : Option Addr) (r_n364 r_c365 : Nat) (r_a366 : Option Addr) (r_n367 r_c368 : Nat) (r_a369 : Option Addr) (r_n370 r_c371 : Nat), Cells w361 p5 0 [.slice r_a363 r_n364 r_c365, .slice r_a366 r_n367 r_c368, .slice r_a369 r_n370 r_c371] ∧ k (.tuple #[.agg #[.slice r_a363 r_n364 r_c365, .slice r_a366 r_n367 r_c368, .slice r_a369 r_n370 r_c371], .int .i64 0]) w361)))) ∧ (∃ (b_a374 : Option Addr) (b_n375 b_c376 : Nat) (w377 : World), (Instr.makeSlice 28 (.int .i64 (l_n2 : Int)) (.int .i64 (l_n2 : Int))).run Try.prog w325 = .ok (.slice b_a374 b_n375 b_c376) w377 ∧ New w377 35 [] (fun p379 w380 => ∃ (b_a381 : Option Addr) (b_n382 b_c383 : Nat) (w384 : World), (Builtin.append_ #[22, 22] 22 #[.slice (some p379) 0 0, .slice l_a1 l_n2 l_c3]).run Try.prog w380 = .ok (.slice b_a381 b_n382 b_c383) w384 ∧ PutAll w384 p5 [.slice b_a381 b_n382 b_c383, .slice b_a374 b_n375 b_c376, .slice b_a322 b_n323 b_c324] (fun w386 => ∃ (r_a388 : Option Addr) (r_n389 r_c390 : Nat) (r_a391 : Option Addr) (r_n392 r_c393 : Nat) (r_a394 : Option Addr) (r_n395 r_c396 : Nat), Cells w386 p5 0 [.slice r_a388 r_n389 r_c390, .slice r_a391 r_n392 r_c393, .slice r_a394 r_n395 r_c396] ∧ k (.tuple #[.agg #[.slice r_a388 r_n389 r_c390, .slice r_a391 r_n392 r_c393, .slice r_a394 r_n395 r_c396], .int .i64 0]) w386))))
/-- spacecraft spacecraftref22.New -/
def F9 (l_a1 : Option Addr) (l_n2 : Nat) (l_c3 : Nat) (w4 : World) (k : Value → World → Prop) : Prop :=
  New w4 30 [.slice none 0 0, .slice none 0 0, .slice none 0 0] (fun p5 w6 => LoopP (fun (s : Int) w' nx' => F9_b1 l_n2 l_a1 p5 l_c3 s w' k (fun x0 w => nx' x0 w)) 0 w6)
set_option maxRecDepth 100000 in
set_option maxHeartbeats 2000000 in
theorem w9 (l_a1 : Option Addr) (l_n2 : Nat) (l_c3 : Nat) (w4 : World) (k : Value → World → Prop) (h : F9 l_a1 l_n2 l_c3 w4 k) : Does Try.prog 9 #[.slice l_a1 l_n2 l_c3] w4 k := by
  refine enter 70 Try.func9 rfl rfl rfl ?_
  intro ρ hρ
  have e0 := hρ 0 _ rfl
  unfold F9 at h
  refine WC_seq ?_
  refine WC_region ?_
  have h := New.out h
  refine WL_val gd0 (o_alloc (z := .agg #[.slice none 0 0, .slice none 0 0, .slice none 0 0]) (cs := [.slice none 0 0, .slice none 0 0, .slice none 0 0]) Try.zeroValue30 rfl) rfl ?_
  generalize hp5 : fresh w4 = p5 at h ⊢
  generalize hw6 : push w4 30 [.slice none 0 0, .slice none 0 0, .slice none 0 0] = w6 at h ⊢
  try dsimp only at h
  refine WL_val gd0 ((o_assign (v := .int .i64 0) rfl) _) rfl ?_
  refine WL_nil ?_
  refine nrm ?_
  refine WC_seq ?_
  refine WC_seq ?_
  refine WC_region ?_
  refine WL_val gd0 ((o_assign (v := .int .i64 0) rfl) _) rfl ?_
  refine WL_nil ?_
  refine nrm ?_
  refine WC_block ?_
  obtain ⟨J11, ⟨n11, h0⟩, hr11⟩ := h
  refine WC_loop (fun n ρ w' => ∃ (i10 : Int), ρ 4 = .int .i64 i10 ∧ ρ 0 = .slice l_a1 l_n2 l_c3 ∧ ρ 2 = .pointer (some p5) ∧ J11 n i10 w') ⟨n11, _, rfl, e0, rfl, h0⟩ ?_
  rintro n11 ρ w11 ⟨i10, e4_9, e0_7, e2_8, h⟩
  have h : F9_b1 l_n2 l_a1 p5 l_c3 i10 w11 k (fun x0 w => ∃ m, m < n11 ∧ J11 m x0 w) := hr11 n11 i10 w11 h
  unfold F9_b1 at h
  refine WC_seq ?_
  refine WC_seq ?_
  refine WC_region ?_
  refine WL_val gd0 ((o_move (v := .int .i64 i10) (by exact e4_9)) _) rfl ?_
  refine WL_val gd0 ((o_move (v := .slice l_a1 l_n2 l_c3) (by exact e0_7)) _) rfl ?_
  refine WL_val gd0 ((o_len Try.underlying22 rfl) _) rfl ?_
  refine WL_val gd0 ((o_lss rfl rfl) _) rfl ?_
  refine WL_nil ?_
  refine nrm ?_
  refine WC_cond (t := (decide (i10 < (l_n2 : Int)))) rfl (fun hb13 => ?_) (fun hb13 => ?_)
  · rw [if_pos (of_decide_eq_true hb13)] at h
    refine WC_skip ?_
    refine nrm ?_
    refine WC_seq ?_
    refine WC_block ?_
    refine WC_seq ?_
    refine WC_region ?_
    refine WL_val gd0 ((o_move (v := .slice l_a1 l_n2 l_c3) (by exact e0_7)) _) rfl ?_
    refine WL_val gd0 ((o_move (v := .int .i64 i10) (by exact e4_9)) _) rfl ?_
    obtain ⟨p16, q17, h⟩ := h
    obtain ⟨l14, u15, h⟩ := h
    refine WL_val gd0 ((o_indexAddr Try.underlying22 Try.sizeOf35 (by exact (congrArg (fun z => Value.slice z l_n2 l_c3) q17)) rfl l14 u15) _) rfl ?_
    obtain ⟨x18, x19, x20, hc21, h⟩ := h
    refine WL_val gd0 (o_loadAgg (vs := [.int .i64 x18, .int .i64 x19, .int .i64 x20]) Try.isAgg35 Try.sizeOf35 rfl hc21) rfl ?_
    have h := New.out h
    refine WL_val gd0 (o_alloc (z := .agg #[.int .i64 0, .int .i64 0, .int .i64 0]) (cs := [.int .i64 0, .int .i64 0, .int .i64 0]) Try.zeroValue35 rfl) rfl ?_
    generalize hp22 : fresh w11 = p22 at h ⊢
    generalize hw23 : push w11 35 [.int .i64 0, .int .i64 0, .int .i64 0] = w23 at h ⊢
    try dsimp only at h
    obtain ⟨c25, h⟩ := h
    refine WL_act gd0 (o_storeAgg (vs := [.int .i64 x18, .int .i64 x19, .int .i64 x20]) Try.sizeOf35 rfl rfl rfl c25) ?_
    generalize hw24 : setAll w23 p22 0 [.int .i64 x18, .int .i64 x19, .int .i64 x20] = w24 at h ⊢
    try dsimp only at h
    refine WL_nil ?_
    refine nrm ?_
    refine WC_seq ?_
    refine WC_cut (fun ρ w' => ∃ (t31 : Bool), ρ 44 = .bool t31 ∧ ρ 0 = .slice l_a1 l_n2 l_c3 ∧ ρ 2 = .pointer (some p5) ∧ ρ 4 = .int .i64 i10 ∧ ρ 5 = .pointer (some p22) ∧ F9_j2 p5 i10 l_n2 p16 p22 t31 w' k (fun x0 w => ∃ m, m < n11 ∧ J11 m x0 w)) ?_ ?_
    · refine WC_region ?_
      refine WL_val gd0 ((o_fieldAddr0 Try.underlying35 rfl Try.sizeOf3 rfl rfl rfl) _) rfl ?_
      obtain ⟨x74, hc75, h⟩ := h
      refine WL_val gd0 (o_load Try.isAgg3 rfl hc75) rfl ?_
      refine WL_val gd0 ((o_lss rfl rfl) _) rfl ?_
      refine WL_val gd0 ((o_move (v := .bool (decide (x74 < 0))) rfl) _) rfl ?_
      refine bsplit (decide (x74 < 0)) (fun hb76 => ?_) (fun hb76 => ?_)
      · rw [if_pos (of_decide_eq_true hb76)] at h
        refine WL_skip (gdN (b := (decide (x74 < 0))) 20 rfl rfl hb76) rfl ?_
        refine WL_skip (gdN (b := (decide (x74 < 0))) 20 rfl rfl hb76) rfl ?_
        refine WL_skip (gdN (b := (decide (x74 < 0))) 20 rfl rfl hb76) rfl ?_
        refine WL_val gd0 ((o_pickT (v := .bool true) rfl hb76 rfl) _) rfl ?_
        refine WL_val gd0 ((o_move (v := .bool true) rfl) _) rfl ?_
        refine WL_skip (gdN (b := true) 25 rfl rfl rfl) rfl ?_
        refine WL_skip (gdN (b := true) 25 rfl rfl rfl) rfl ?_
        refine WL_skip (gdN (b := true) 25 rfl rfl rfl) rfl ?_
        refine WL_val gd0 ((o_pickT (v := .bool true) rfl rfl rfl) _) rfl ?_
        refine WL_val gd0 ((o_move (v := .bool true) rfl) _) rfl ?_
        refine WL_skip (gdN (b := true) 30 rfl rfl rfl) rfl ?_
        refine WL_skip (gdN (b := true) 30 rfl rfl rfl) rfl ?_
        refine WL_skip (gdN (b := true) 30 rfl rfl rfl) rfl ?_
        refine WL_val gd0 ((o_pickT (v := .bool true) rfl rfl rfl) _) rfl ?_
        refine WL_val gd0 ((o_move (v := .bool true) rfl) _) rfl ?_
        refine WL_skip (gdN (b := true) 35 rfl rfl rfl) rfl ?_
        refine WL_skip (gdN (b := true) 35 rfl rfl rfl) rfl ?_
        refine WL_skip (gdN (b := true) 35 rfl rfl rfl) rfl ?_
        refine WL_val gd0 ((o_pickT (v := .bool true) rfl rfl rfl) _) rfl ?_
        refine WL_val gd0 ((o_move (v := .bool true) rfl) _) rfl ?_
        refine WL_skip (gdN (b := true) 40 rfl rfl rfl) rfl ?_
        refine WL_skip (gdN (b := true) 40 rfl rfl rfl) rfl ?_
        refine WL_skip (gdN (b := true) 40 rfl rfl rfl) rfl ?_
        refine WL_val gd0 ((o_pickT (v := .bool true) rfl rfl rfl) _) rfl ?_
        refine WL_nil ?_
        refine nrm ?_
        exact ⟨_, rfl, e0_7, e2_8, e4_9, rfl, h⟩
      · rw [if_neg (of_decide_eq_false hb76)] at h
        refine WL_val (gdY (b := (decide (x74 < 0))) 20 rfl rfl hb76) ((o_fieldAddr0 Try.underlying35 rfl Try.sizeOf3 rfl rfl rfl) _) rfl ?_
        obtain ⟨x77, hc78, h⟩ := h
        refine WL_val (gdY (b := (decide (x74 < 0))) 20 rfl rfl hb76) (o_load Try.isAgg3 rfl hc78) rfl ?_
        refine WL_val (gdY (b := (decide (x74 < 0))) 20 rfl rfl hb76) ((o_gtr rfl rfl) _) rfl ?_
        refine WL_val gd0 ((o_pickF (v := .bool (decide (7 < x77))) rfl hb76 rfl) _) rfl ?_
        refine WL_val gd0 ((o_move (v := .bool (decide (7 < x77))) rfl) _) rfl ?_
        refine bsplit (decide (7 < x77)) (fun hb79 => ?_) (fun hb79 => ?_)
        · rw [if_pos (of_decide_eq_true hb79)] at h
          refine WL_skip (gdN (b := (decide (7 < x77))) 25 rfl rfl hb79) rfl ?_
          refine WL_skip (gdN (b := (decide (7 < x77))) 25 rfl rfl hb79) rfl ?_
          refine WL_skip (gdN (b := (decide (7 < x77))) 25 rfl rfl hb79) rfl ?_
          refine WL_val gd0 ((o_pickT (v := .bool true) rfl hb79 rfl) _) rfl ?_
          refine WL_val gd0 ((o_move (v := .bool true) rfl) _) rfl ?_
          refine WL_skip (gdN (b := true) 30 rfl rfl rfl) rfl ?_
          refine WL_skip (gdN (b := true) 30 rfl rfl rfl) rfl ?_
          refine WL_skip (gdN (b := true) 30 rfl rfl rfl) rfl ?_
          refine WL_val gd0 ((o_pickT (v := .bool true) rfl rfl rfl) _) rfl ?_
          refine WL_val gd0 ((o_move (v := .bool true) rfl) _) rfl ?_
          refine WL_skip (gdN (b := true) 35 rfl rfl rfl) rfl ?_
          refine WL_skip (gdN (b := true) 35 rfl rfl rfl) rfl ?_
          refine WL_skip (gdN (b := true) 35 rfl rfl rfl) rfl ?_
          refine WL_val gd0 ((o_pickT (v := .bool true) rfl rfl rfl) _) rfl ?_
          refine WL_val gd0 ((o_move (v := .bool true) rfl) _) rfl ?_
          refine WL_skip (gdN (b := true) 40 rfl rfl rfl) rfl ?_
          refine WL_skip (gdN (b := true) 40 rfl rfl rfl) rfl ?_
          refine WL_skip (gdN (b := true) 40 rfl rfl rfl) rfl ?_
          refine WL_val gd0 ((o_pickT (v := .bool true) rfl rfl rfl) _) rfl ?_
          refine WL_nil ?_
          refine nrm ?_
          exact ⟨_, rfl, e0_7, e2_8, e4_9, rfl, h⟩
        · rw [if_neg (of_decide_eq_false hb79)] at h
          refine WL_val (gdY (b := (decide (7 < x77))) 25 rfl rfl hb79) ((o_fieldAddr 1 Try.underlying35 rfl Try.sizeOf3 rfl rfl rfl) _) rfl ?_
          obtain ⟨x80, hc81, h⟩ := h
          refine WL_val (gdY (b := (decide (7 < x77))) 25 rfl rfl hb79) (o_load Try.isAgg3 rfl hc81) rfl ?_
          refine WL_val (gdY (b := (decide (7 < x77))) 25 rfl rfl hb79) ((o_lss rfl rfl) _) rfl ?_
          refine WL_val gd0 ((o_pickF (v := .bool (decide (x80 < 0))) rfl hb79 rfl) _) rfl ?_
          refine WL_val gd0 ((o_move (v := .bool (decide (x80 < 0))) rfl) _) rfl ?_
          refine bsplit (decide (x80 < 0)) (fun hb82 => ?_) (fun hb82 => ?_)
          · rw [if_pos (of_decide_eq_true hb82)] at h
            refine WL_skip (gdN (b := (decide (x80 < 0))) 30 rfl rfl hb82) rfl ?_
            refine WL_skip (gdN (b := (decide (x80 < 0))) 30 rfl rfl hb82) rfl ?_
            refine WL_skip (gdN (b := (decide (x80 < 0))) 30 rfl rfl hb82) rfl ?_
            refine WL_val gd0 ((o_pickT (v := .bool true) rfl hb82 rfl) _) rfl ?_
            refine WL_val gd0 ((o_move (v := .bool true) rfl) _) rfl ?_
            refine WL_skip (gdN (b := true) 35 rfl rfl rfl) rfl ?_
            refine WL_skip (gdN (b := true) 35 rfl rfl rfl) rfl ?_
            refine WL_skip (gdN (b := true) 35 rfl rfl rfl) rfl ?_
            refine WL_val gd0 ((o_pickT (v := .bool true) rfl rfl rfl) _) rfl ?_
            refine WL_val gd0 ((o_move (v := .bool true) rfl) _) rfl ?_
            refine WL_skip (gdN (b := true) 40 rfl rfl rfl) rfl ?_
            refine WL_skip (gdN (b := true) 40 rfl rfl rfl) rfl ?_
            refine WL_skip (gdN (b := true) 40 rfl rfl rfl) rfl ?_
            refine WL_val gd0 ((o_pickT (v := .bool true) rfl rfl rfl) _) rfl ?_
            refine WL_nil ?_
            refine nrm ?_
            exact ⟨_, rfl, e0_7, e2_8, e4_9, rfl, h⟩
          · rw [if_neg (of_decide_eq_false hb82)] at h
            refine WL_val (gdY (b := (decide (x80 < 0))) 30 rfl rfl hb82) ((o_fieldAddr 1 Try.underlying35 rfl Try.sizeOf3 rfl rfl rfl) _) rfl ?_
            obtain ⟨x83, hc84, h⟩ := h
            refine WL_val (gdY (b := (decide (x80 < 0))) 30 rfl rfl hb82) (o_load Try.isAgg3 rfl hc84) rfl ?_
            refine WL_val (gdY (b := (decide (x80 < 0))) 30 rfl rfl hb82) ((o_gtr rfl rfl) _) rfl ?_
            refine WL_val gd0 ((o_pickF (v := .bool (decide (15 < x83))) rfl hb82 rfl) _) rfl ?_
            refine WL_val gd0 ((o_move (v := .bool (decide (15 < x83))) rfl) _) rfl ?_
            refine bsplit (decide (15 < x83)) (fun hb85 => ?_) (fun hb85 => ?_)
            · rw [if_pos (of_decide_eq_true hb85)] at h
              refine WL_skip (gdN (b := (decide (15 < x83))) 35 rfl rfl hb85) rfl ?_
              refine WL_skip (gdN (b := (decide (15 < x83))) 35 rfl rfl hb85) rfl ?_
              refine WL_skip (gdN (b := (decide (15 < x83))) 35 rfl rfl hb85) rfl ?_
              refine WL_val gd0 ((o_pickT (v := .bool true) rfl hb85 rfl) _) rfl ?_
              refine WL_val gd0 ((o_move (v := .bool true) rfl) _) rfl ?_
              refine WL_skip (gdN (b := true) 40 rfl rfl rfl) rfl ?_
              refine WL_skip (gdN (b := true) 40 rfl rfl rfl) rfl ?_
              refine WL_skip (gdN (b := true) 40 rfl rfl rfl) rfl ?_
              refine WL_val gd0 ((o_pickT (v := .bool true) rfl rfl rfl) _) rfl ?_
              refine WL_nil ?_
              refine nrm ?_
              exact ⟨_, rfl, e0_7, e2_8, e4_9, rfl, h⟩
            · rw [if_neg (of_decide_eq_false hb85)] at h
              refine WL_val (gdY (b := (decide (15 < x83))) 35 rfl rfl hb85) ((o_fieldAddr 2 Try.underlying35 rfl Try.sizeOf3 rfl rfl rfl) _) rfl ?_
              obtain ⟨x86, hc87, h⟩ := h
              refine WL_val (gdY (b := (decide (15 < x83))) 35 rfl rfl hb85) (o_load Try.isAgg3 rfl hc87) rfl ?_
              refine WL_val (gdY (b := (decide (15 < x83))) 35 rfl rfl hb85) ((o_lss rfl rfl) _) rfl ?_
              refine WL_val gd0 ((o_pickF (v := .bool (decide (x86 < 1))) rfl hb85 rfl) _) rfl ?_
              refine WL_val gd0 ((o_move (v := .bool (decide (x86 < 1))) rfl) _) rfl ?_
              refine bsplit (decide (x86 < 1)) (fun hb88 => ?_) (fun hb88 => ?_)
              · rw [if_pos (of_decide_eq_true hb88)] at h
                refine WL_skip (gdN (b := (decide (x86 < 1))) 40 rfl rfl hb88) rfl ?_
                refine WL_skip (gdN (b := (decide (x86 < 1))) 40 rfl rfl hb88) rfl ?_
                refine WL_skip (gdN (b := (decide (x86 < 1))) 40 rfl rfl hb88) rfl ?_
                refine WL_val gd0 ((o_pickT (v := .bool true) rfl hb88 rfl) _) rfl ?_
                refine WL_nil ?_
                refine nrm ?_
                exact ⟨_, rfl, e0_7, e2_8, e4_9, rfl, h⟩
              · rw [if_neg (of_decide_eq_false hb88)] at h
                refine WL_val (gdY (b := (decide (x86 < 1))) 40 rfl rfl hb88) ((o_fieldAddr 2 Try.underlying35 rfl Try.sizeOf3 rfl rfl rfl) _) rfl ?_
                obtain ⟨x89, hc90, h⟩ := h
                refine WL_val (gdY (b := (decide (x86 < 1))) 40 rfl rfl hb88) (o_load Try.isAgg3 rfl hc90) rfl ?_
                refine WL_val (gdY (b := (decide (x86 < 1))) 40 rfl rfl hb88) ((o_gtr rfl rfl) _) rfl ?_
                refine WL_val gd0 ((o_pickF (v := .bool (decide (100 < x89))) rfl hb88 rfl) _) rfl ?_
                refine WL_nil ?_
                refine nrm ?_
                exact ⟨_, rfl, e0_7, e2_8, e4_9, rfl, h⟩
    · rintro ρ w32 ⟨t31, e44_30, e0_26, e2_27, e4_28, e5_29, h⟩
      unfold F9_j2 at h
      refine WC_cond (t := t31) (by exact e44_30) (fun hb33 => ?_) (fun hb33 => ?_)
      · rw [if_pos hb33] at h
        refine WC_seq ?_
        refine WC_region ?_
        refine WL_val gd0 ((o_build (ps := []) (v := .agg #[.slice none 0 0, .slice none 0 0, .slice none 0 0]) partNil (fun w => by kernel_rfl)) _) rfl ?_
        obtain ⟨c35, h⟩ := h
        refine WL_act gd0 (o_storeAgg (vs := [.slice none 0 0, .slice none 0 0, .slice none 0 0]) Try.sizeOf30 (by exact e2_27) rfl rfl c35) ?_
        generalize hw34 : setAll w32 p5 0 [.slice none 0 0, .slice none 0 0, .slice none 0 0] = w34 at h ⊢
        try dsimp only at h
        refine WL_val gd0 ((o_assign (v := .int .i64 1) rfl) _) rfl ?_
        refine WL_nil ?_
        refine nrm ?_
        refine WC_ret ?_
        refine rtT ?_
        refine rtB ?_
        refine rtT ?_
        refine rtT ?_
        refine rtB ?_
        refine rtT ?_
        refine rtE ?_
        obtain ⟨r_a36, r_n37, r_c38, r_a39, r_n40, r_c41, r_a42, r_n43, r_c44, hc45, h⟩ := h
        exact gvC1 (vs := [.slice r_a36 r_n37 r_c38, .slice r_a39 r_n40 r_c41, .slice r_a42 r_n43 r_c44]) rfl Try.isAgg30 Try.sizeOf30 (by exact e2_27) hc45 rfl h
      · rw [if_neg (neT hb33)] at h
        refine WC_skip ?_
        refine nrm ?_
        refine WC_seq ?_
        refine WC_region ?_
        refine WL_val gd0 ((o_assign (v := .int .i64 0) rfl) _) rfl ?_
        refine WL_nil ?_
        refine nrm ?_
        refine WC_block ?_
        obtain ⟨J52, ⟨n52, h0⟩, hr52⟩ := h
        refine WC_loop (fun n ρ w' => ∃ (j51 : Int), ρ 6 = .int .i64 j51 ∧ ρ 0 = .slice l_a1 l_n2 l_c3 ∧ ρ 2 = .pointer (some p5) ∧ ρ 4 = .int .i64 i10 ∧ ρ 5 = .pointer (some p22) ∧ J52 n j51 w') ⟨n52, _, rfl, e0_26, e2_27, e4_28, e5_29, h0⟩ ?_
        rintro n52 ρ w52 ⟨j51, e6_50, e0_46, e2_47, e4_48, e5_49, h⟩
        have h : F9_b3 i10 l_n2 p16 p22 p5 j51 w52 k (fun x0 w => ∃ m, m < n52 ∧ J52 m x0 w) (fun x0 w => ∃ m, m < n11 ∧ J11 m x0 w) := hr52 n52 j51 w52 h
        unfold F9_b3 at h
        refine WC_seq ?_
        refine WC_seq ?_
        refine WC_region ?_
        refine WL_val gd0 ((o_move (v := .int .i64 j51) (by exact e6_50)) _) rfl ?_
        refine WL_val gd0 ((o_move (v := .int .i64 i10) (by exact e4_48)) _) rfl ?_
        refine WL_val gd0 ((o_lss rfl rfl) _) rfl ?_
        refine WL_nil ?_
        refine nrm ?_
        refine WC_cond (t := (decide (j51 < i10))) rfl (fun hb54 => ?_) (fun hb54 => ?_)
        · rw [if_pos (of_decide_eq_true hb54)] at h
          refine WC_skip ?_
          refine nrm ?_
          refine WC_seq ?_
          refine WC_block ?_
          refine WC_seq ?_
          refine WC_draws [] (.look 0 (.look 1 (.look 2 (.look 3 (.look 4 (.look 5 (.look 6 (.look 7 .nil)))))))) Try.mixed (by kernel_rfl) ?_
          refine WQ_val rfl gd0 (o_move (v := .slice l_a1 l_n2 l_c3) (by exact e0_46)) rfl ?_
          refine WQ_val rfl gd0 (o_move (v := .int .i64 j51) (by exact e6_50)) rfl ?_
          obtain ⟨l55, u56, h⟩ := h
          refine WQ_val rfl gd0 (o_indexAddr Try.underlying22 Try.sizeOf35 (by exact (congrArg (fun z => Value.slice z l_n2 l_c3) q17)) rfl l55 u56) rfl ?_
          refine WQ_val rfl gd0 (o_fieldAddr0 Try.underlying35 rfl Try.sizeOf3 rfl rfl rfl) rfl ?_
          obtain ⟨x57, hc58, h⟩ := h
          refine WQ_look (fun w => w.cell? (p16.add (j51.toNat * 3)) = some (.int .i64 x57)) rfl gd0 (fun w hc => (o_load Try.isAgg3 rfl hc)) hc58 rfl ?_
          refine WQ_val rfl gd0 (o_fieldAddr0 Try.underlying35 rfl Try.sizeOf3 rfl rfl (by exact e5_49)) rfl ?_
          obtain ⟨x59, hc60, h⟩ := h
          refine WQ_look (fun w => w.cell? p22 = some (.int .i64 x59)) rfl gd0 (fun w hc => (o_load Try.isAgg3 rfl hc)) hc60 rfl ?_
          refine WQ_val rfl gd0 (o_eql rfl rfl) rfl ?_
          refine WQ_nil ?_
          refine nrm ?_
          refine WC_cond (t := (decide (x57 = x59))) rfl (fun hb61 => ?_) (fun hb61 => ?_)
          · rw [if_pos (of_decide_eq_true hb61)] at h
            refine WC_seq ?_
            refine WC_region ?_
            refine WL_val gd0 ((o_build (ps := []) (v := .agg #[.slice none 0 0, .slice none 0 0, .slice none 0 0]) partNil (fun w => by kernel_rfl)) _) rfl ?_
            obtain ⟨c63, h⟩ := h
            refine WL_act gd0 (o_storeAgg (vs := [.slice none 0 0, .slice none 0 0, .slice none 0 0]) Try.sizeOf30 (by exact e2_47) rfl rfl c63) ?_
            generalize hw62 : setAll w52.drew p5 0 [.slice none 0 0, .slice none 0 0, .slice none 0 0] = w62 at h ⊢
            try dsimp only at h
            refine WL_val gd0 ((o_assign (v := .int .i64 9) rfl) _) rfl ?_
            refine WL_nil ?_
            refine nrm ?_
            refine WC_ret ?_
            refine rtB ?_
            refine rtT ?_
            refine rtT ?_
            refine rtB ?_
            refine rtB ?_
            refine rtT ?_
            refine rtT ?_
            refine rtB ?_
            refine rtT ?_
            refine rtE ?_
            obtain ⟨r_a64, r_n65, r_c66, r_a67, r_n68, r_c69, r_a70, r_n71, r_c72, hc73, h⟩ := h
            exact gvC1 (vs := [.slice r_a64 r_n65 r_c66, .slice r_a67 r_n68 r_c69, .slice r_a70 r_n71 r_c72]) rfl Try.isAgg30 Try.sizeOf30 (by exact e2_47) hc73 rfl h
          · rw [if_neg (of_decide_eq_false hb61)] at h
            refine WC_skip ?_
            refine nrmB ?_
            refine nrm ?_
            refine WC_region ?_
            refine WL_val gd0 ((o_move (v := .int .i64 j51) (by exact e6_50)) _) rfl ?_
            refine WL_val gd0 ((o_add rfl rfl) _) rfl ?_
            refine WL_val gd0 ((o_assign (v := .int .i64 (IntKind.i64.wrap (j51 + 1))) rfl) _) rfl ?_
            refine WL_nil ?_
            refine nrm ?_
            obtain ⟨m53, hm53, h⟩ := h
            exact ⟨m53, hm53, _, rfl, e0_46, e2_47, e4_48, e5_49, h⟩
        · rw [if_neg (of_decide_eq_false hb54)] at h
          refine WC_exit ?_
          refine exT ?_
          refine exT ?_
          refine exB ?_
          refine nrmB ?_
          refine nrm ?_
          refine WC_region ?_
          refine WL_val gd0 ((o_move (v := .int .i64 i10) (by exact e4_48)) _) rfl ?_
          refine WL_val gd0 ((o_add rfl rfl) _) rfl ?_
          refine WL_val gd0 ((o_assign (v := .int .i64 (IntKind.i64.wrap (i10 + 1))) rfl) _) rfl ?_
          refine WL_nil ?_
          refine nrm ?_
          obtain ⟨m12, hm12, h⟩ := h
          exact ⟨m12, hm12, _, rfl, e0_46, e2_47, h⟩
  · rw [if_neg (of_decide_eq_false hb13)] at h
    refine WC_exit ?_
    refine exT ?_
    refine exT ?_
    refine exB ?_
    refine nrm ?_
    refine WC_seq ?_
    refine WC_draws [0, 2, 5, 8, 10] (.look 1 (.look 3 (.look 4 (.look 6 (.look 7 (.fork3 0 (.fork3 2 (.fork 5 (.act 8 (.look 9 (.act 10 (.look 11 .nil)))) 8 (.act 5 (.look 9 (.act 10 (.look 11 .nil))))) 5 (.fork 2 (.act 8 (.look 9 (.act 10 (.look 11 .nil)))) 8 (.act 2 (.look 9 (.act 10 (.look 11 .nil))))) 8 (.fork 2 (.act 5 (.look 9 (.act 10 (.look 11 .nil)))) 5 (.act 2 (.look 9 (.act 10 (.look 11 .nil)))))) 5 (.fork 0 (.fork 2 (.act 8 (.look 9 (.act 10 (.look 11 .nil)))) 8 (.act 2 (.look 9 (.act 10 (.look 11 .nil))))) 8 (.act 0 (.act 2 (.look 9 (.act 10 (.look 11 .nil)))))) 8 (.fork 0 (.fork 2 (.act 5 (.look 9 (.act 10 (.look 11 .nil)))) 5 (.act 2 (.look 9 (.act 10 (.look 11 .nil))))) 5 (.act 0 (.act 2 (.look 9 (.act 10 (.look 11 .nil)))))))))))) Try.mixed (by kernel_rfl) ?_
    refine WQ_val rfl gd0 (o_move (v := .slice l_a1 l_n2 l_c3) (by exact e0_7)) rfl ?_
    refine WQ_val rfl gd0 (o_move (v := .slice l_a1 l_n2 l_c3) (by exact e0_7)) rfl ?_
    refine WQ_val rfl gd0 (o_len Try.underlying22 rfl) rfl ?_
    refine WQ_val rfl gd0 (o_move (v := .slice l_a1 l_n2 l_c3) (by exact e0_7)) rfl ?_
    refine WQ_val rfl gd0 (o_len Try.underlying22 rfl) rfl ?_
    obtain ⟨h, hf399, hf400⟩ := h
    refine WQ_fork3 ?_ ?_ ?_
    · have h := New.out h
      refine WQ_act rfl gd0 (o_buildSlice (e := 35) (ps := []) (cs := []) partNil (fun w => by kernel_rfl)) rfl (by exact trivial) ?_
      generalize hp91 : fresh w11.drew = p91 at h ⊢
      generalize hw92 : push w11.drew 35 [] = w92 at h ⊢
      try dsimp only at h
      obtain ⟨h, hf243, hf244⟩ := h
      refine WQ_fork3 ?_ ?_ ?_
      · obtain ⟨b_a93, b_n94, b_c95, w96, r97, h⟩ := h
        refine WQ_act rfl gd0 (o_append rfl rfl r97) rfl (by exact trivial) ?_
        obtain ⟨h, hf142⟩ := h
        refine WQ_fork ?_ ?_
        · obtain ⟨b_a98, b_n99, b_c100, w101, r102, h⟩ := h
          refine WQ_act rfl gd0 (o_makeSlice rfl rfl r102) rfl (by exact trivial) ?_
          obtain ⟨b_a103, b_n104, b_c105, w106, r107, h⟩ := h
          refine WQ_act rfl gd0 (o_makeSlice rfl rfl r107) rfl (by exact trivial) ?_
          refine WQ_val rfl gd0 (o_build (ps := [(0, .slice b_a93 b_n94 b_c95), (1, .slice b_a98 b_n99 b_c100), (2, .slice b_a103 b_n104 b_c105)]) (v := .agg #[.slice b_a93 b_n94 b_c95, .slice b_a98 b_n99 b_c100, .slice b_a103 b_n104 b_c105]) (partCons rfl (partCons rfl (partCons rfl partNil))) (fun w => by kernel_rfl)) rfl ?_
          obtain ⟨c109, h⟩ := h
          refine WQ_do rfl gd0 (o_storeAgg (vs := [.slice b_a93 b_n94 b_c95, .slice b_a98 b_n99 b_c100, .slice b_a103 b_n104 b_c105]) Try.sizeOf30 (by exact e2_8) rfl rfl c109) (by exact trivial) ?_
          generalize hw108 : setAll w106 p5 0 [.slice b_a93 b_n94 b_c95, .slice b_a98 b_n99 b_c100, .slice b_a103 b_n104 b_c105] = w108 at h ⊢
          try dsimp only at h
          refine WQ_val rfl gd0 (o_assign (v := .int .i64 0) rfl) rfl ?_
          refine WQ_nil ?_
          refine nrm ?_
          refine WC_ret ?_
          refine rtE ?_
          obtain ⟨r_a110, r_n111, r_c112, r_a113, r_n114, r_c115, r_a116, r_n117, r_c118, hc119, h⟩ := h
          exact gvC1 (vs := [.slice r_a110 r_n111 r_c112, .slice r_a113 r_n114 r_c115, .slice r_a116 r_n117 r_c118]) rfl Try.isAgg30 Try.sizeOf30 (by exact e2_8) hc119 rfl h
        · replace h := hf142
          obtain ⟨b_a120, b_n121, b_c122, w123, r124, h⟩ := h
          refine WQ_act rfl gd0 (o_makeSlice rfl rfl r124) rfl (by exact trivial) ?_
          obtain ⟨b_a125, b_n126, b_c127, w128, r129, h⟩ := h
          refine WQ_act rfl gd0 (o_makeSlice rfl rfl r129) rfl (by exact trivial) ?_
          refine WQ_val rfl gd0 (o_build (ps := [(0, .slice b_a93 b_n94 b_c95), (1, .slice b_a125 b_n126 b_c127), (2, .slice b_a120 b_n121 b_c122)]) (v := .agg #[.slice b_a93 b_n94 b_c95, .slice b_a125 b_n126 b_c127, .slice b_a120 b_n121 b_c122]) (partCons rfl (partCons rfl (partCons rfl partNil))) (fun w => by kernel_rfl)) rfl ?_
          obtain ⟨c131, h⟩ := h
          refine WQ_do rfl gd0 (o_storeAgg (vs := [.slice b_a93 b_n94 b_c95, .slice b_a125 b_n126 b_c127, .slice b_a120 b_n121 b_c122]) Try.sizeOf30 (by exact e2_8) rfl rfl c131) (by exact trivial) ?_
          generalize hw130 : setAll w128 p5 0 [.slice b_a93 b_n94 b_c95, .slice b_a125 b_n126 b_c127, .slice b_a120 b_n121 b_c122] = w130 at h ⊢
          try dsimp only at h
          refine WQ_val rfl gd0 (o_assign (v := .int .i64 0) rfl) rfl ?_
          refine WQ_nil ?_
          refine nrm ?_
          refine WC_ret ?_
          refine rtE ?_
          obtain ⟨r_a132, r_n133, r_c134, r_a135, r_n136, r_c137, r_a138, r_n139, r_c140, hc141, h⟩ := h
          exact gvC1 (vs := [.slice r_a132 r_n133 r_c134, .slice r_a135 r_n136 r_c137, .slice r_a138 r_n139 r_c140]) rfl Try.isAgg30 Try.sizeOf30 (by exact e2_8) hc141 rfl h
      · replace h := hf243
        obtain ⟨b_a143, b_n144, b_c145, w146, r147, h⟩ := h
        refine WQ_act rfl gd0 (o_makeSlice rfl rfl r147) rfl (by exact trivial) ?_
        obtain ⟨h, hf192⟩ := h
        refine WQ_fork ?_ ?_
        · obtain ⟨b_a148, b_n149, b_c150, w151, r152, h⟩ := h
          refine WQ_act rfl gd0 (o_append rfl rfl r152) rfl (by exact trivial) ?_
          obtain ⟨b_a153, b_n154, b_c155, w156, r157, h⟩ := h
          refine WQ_act rfl gd0 (o_makeSlice rfl rfl r157) rfl (by exact trivial) ?_
          refine WQ_val rfl gd0 (o_build (ps := [(0, .slice b_a148 b_n149 b_c150), (1, .slice b_a143 b_n144 b_c145), (2, .slice b_a153 b_n154 b_c155)]) (v := .agg #[.slice b_a148 b_n149 b_c150, .slice b_a143 b_n144 b_c145, .slice b_a153 b_n154 b_c155]) (partCons rfl (partCons rfl (partCons rfl partNil))) (fun w => by kernel_rfl)) rfl ?_
          obtain ⟨c159, h⟩ := h
          refine WQ_do rfl gd0 (o_storeAgg (vs := [.slice b_a148 b_n149 b_c150, .slice b_a143 b_n144 b_c145, .slice b_a153 b_n154 b_c155]) Try.sizeOf30 (by exact e2_8) rfl rfl c159) (by exact trivial) ?_
          generalize hw158 : setAll w156 p5 0 [.slice b_a148 b_n149 b_c150, .slice b_a143 b_n144 b_c145, .slice b_a153 b_n154 b_c155] = w158 at h ⊢
          try dsimp only at h
          refine WQ_val rfl gd0 (o_assign (v := .int .i64 0) rfl) rfl ?_
          refine WQ_nil ?_
          refine nrm ?_
          refine WC_ret ?_
          refine rtE ?_
          obtain ⟨r_a160, r_n161, r_c162, r_a163, r_n164, r_c165, r_a166, r_n167, r_c168, hc169, h⟩ := h
          exact gvC1 (vs := [.slice r_a160 r_n161 r_c162, .slice r_a163 r_n164 r_c165, .slice r_a166 r_n167 r_c168]) rfl Try.isAgg30 Try.sizeOf30 (by exact e2_8) hc169 rfl h
        · replace h := hf192
          obtain ⟨b_a170, b_n171, b_c172, w173, r174, h⟩ := h
          refine WQ_act rfl gd0 (o_makeSlice rfl rfl r174) rfl (by exact trivial) ?_
          obtain ⟨b_a175, b_n176, b_c177, w178, r179, h⟩ := h
          refine WQ_act rfl gd0 (o_append rfl rfl r179) rfl (by exact trivial) ?_
          refine WQ_val rfl gd0 (o_build (ps := [(0, .slice b_a175 b_n176 b_c177), (1, .slice b_a143 b_n144 b_c145), (2, .slice b_a170 b_n171 b_c172)]) (v := .agg #[.slice b_a175 b_n176 b_c177, .slice b_a143 b_n144 b_c145, .slice b_a170 b_n171 b_c172]) (partCons rfl (partCons rfl (partCons rfl partNil))) (fun w => by kernel_rfl)) rfl ?_
          obtain ⟨c181, h⟩ := h
          refine WQ_do rfl gd0 (o_storeAgg (vs := [.slice b_a175 b_n176 b_c177, .slice b_a143 b_n144 b_c145, .slice b_a170 b_n171 b_c172]) Try.sizeOf30 (by exact e2_8) rfl rfl c181) (by exact trivial) ?_
          generalize hw180 : setAll w178 p5 0 [.slice b_a175 b_n176 b_c177, .slice b_a143 b_n144 b_c145, .slice b_a170 b_n171 b_c172] = w180 at h ⊢
          try dsimp only at h
          refine WQ_val rfl gd0 (o_assign (v := .int .i64 0) rfl) rfl ?_
          refine WQ_nil ?_
          refine nrm ?_
          refine WC_ret ?_
          refine rtE ?_
          obtain ⟨r_a182, r_n183, r_c184, r_a185, r_n186, r_c187, r_a188, r_n189, r_c190, hc191, h⟩ := h
          exact gvC1 (vs := [.slice r_a182 r_n183 r_c184, .slice r_a185 r_n186 r_c187, .slice r_a188 r_n189 r_c190]) rfl Try.isAgg30 Try.sizeOf30 (by exact e2_8) hc191 rfl h
      · replace h := hf244
        obtain ⟨b_a193, b_n194, b_c195, w196, r197, h⟩ := h
        refine WQ_act rfl gd0 (o_makeSlice rfl rfl r197) rfl (by exact trivial) ?_
        obtain ⟨h, hf242⟩ := h
        refine WQ_fork ?_ ?_
        · obtain ⟨b_a198, b_n199, b_c200, w201, r202, h⟩ := h
          refine WQ_act rfl gd0 (o_append rfl rfl r202) rfl (by exact trivial) ?_
          obtain ⟨b_a203, b_n204, b_c205, w206, r207, h⟩ := h
          refine WQ_act rfl gd0 (o_makeSlice rfl rfl r207) rfl (by exact trivial) ?_
          refine WQ_val rfl gd0 (o_build (ps := [(0, .slice b_a198 b_n199 b_c200), (1, .slice b_a203 b_n204 b_c205), (2, .slice b_a193 b_n194 b_c195)]) (v := .agg #[.slice b_a198 b_n199 b_c200, .slice b_a203 b_n204 b_c205, .slice b_a193 b_n194 b_c195]) (partCons rfl (partCons rfl (partCons rfl partNil))) (fun w => by kernel_rfl)) rfl ?_
          obtain ⟨c209, h⟩ := h
          refine WQ_do rfl gd0 (o_storeAgg (vs := [.slice b_a198 b_n199 b_c200, .slice b_a203 b_n204 b_c205, .slice b_a193 b_n194 b_c195]) Try.sizeOf30 (by exact e2_8) rfl rfl c209) (by exact trivial) ?_
          generalize hw208 : setAll w206 p5 0 [.slice b_a198 b_n199 b_c200, .slice b_a203 b_n204 b_c205, .slice b_a193 b_n194 b_c195] = w208 at h ⊢
          try dsimp only at h
          refine WQ_val rfl gd0 (o_assign (v := .int .i64 0) rfl) rfl ?_
          refine WQ_nil ?_
          refine nrm ?_
          refine WC_ret ?_
          refine rtE ?_
          obtain ⟨r_a210, r_n211, r_c212, r_a213, r_n214, r_c215, r_a216, r_n217, r_c218, hc219, h⟩ := h
          exact gvC1 (vs := [.slice r_a210 r_n211 r_c212, .slice r_a213 r_n214 r_c215, .slice r_a216 r_n217 r_c218]) rfl Try.isAgg30 Try.sizeOf30 (by exact e2_8) hc219 rfl h
        · replace h := hf242
          obtain ⟨b_a220, b_n221, b_c222, w223, r224, h⟩ := h
          refine WQ_act rfl gd0 (o_makeSlice rfl rfl r224) rfl (by exact trivial) ?_
          obtain ⟨b_a225, b_n226, b_c227, w228, r229, h⟩ := h
          refine WQ_act rfl gd0 (o_append rfl rfl r229) rfl (by exact trivial) ?_
          refine WQ_val rfl gd0 (o_build (ps := [(0, .slice b_a225 b_n226 b_c227), (1, .slice b_a220 b_n221 b_c222), (2, .slice b_a193 b_n194 b_c195)]) (v := .agg #[.slice b_a225 b_n226 b_c227, .slice b_a220 b_n221 b_c222, .slice b_a193 b_n194 b_c195]) (partCons rfl (partCons rfl (partCons rfl partNil))) (fun w => by kernel_rfl)) rfl ?_
          obtain ⟨c231, h⟩ := h
          refine WQ_do rfl gd0 (o_storeAgg (vs := [.slice b_a225 b_n226 b_c227, .slice b_a220 b_n221 b_c222, .slice b_a193 b_n194 b_c195]) Try.sizeOf30 (by exact e2_8) rfl rfl c231) (by exact trivial) ?_
          generalize hw230 : setAll w228 p5 0 [.slice b_a225 b_n226 b_c227, .slice b_a220 b_n221 b_c222, .slice b_a193 b_n194 b_c195] = w230 at h ⊢
          try dsimp only at h
          refine WQ_val rfl gd0 (o_assign (v := .int .i64 0) rfl) rfl ?_
          refine WQ_nil ?_
          refine nrm ?_
          refine WC_ret ?_
          refine rtE ?_
          obtain ⟨r_a232, r_n233, r_c234, r_a235, r_n236, r_c237, r_a238, r_n239, r_c240, hc241, h⟩ := h
          exact gvC1 (vs := [.slice r_a232 r_n233 r_c234, .slice r_a235 r_n236 r_c237, .slice r_a238 r_n239 r_c240]) rfl Try.isAgg30 Try.sizeOf30 (by exact e2_8) hc241 rfl h
    · replace h := hf399
      obtain ⟨b_a245, b_n246, b_c247, w248, r249, h⟩ := h
      refine WQ_act rfl gd0 (o_makeSlice rfl rfl r249) rfl (by exact trivial) ?_
      obtain ⟨h, hf321⟩ := h
      refine WQ_fork ?_ ?_
      · have h := New.out h
        refine WQ_act rfl gd0 (o_buildSlice (e := 35) (ps := []) (cs := []) partNil (fun w => by kernel_rfl)) rfl (by exact trivial) ?_
        generalize hp250 : fresh w248 = p250 at h ⊢
        generalize hw251 : push w248 35 [] = w251 at h ⊢
        try dsimp only at h
        obtain ⟨h, hf296⟩ := h
        refine WQ_fork ?_ ?_
        · obtain ⟨b_a252, b_n253, b_c254, w255, r256, h⟩ := h
          refine WQ_act rfl gd0 (o_append rfl rfl r256) rfl (by exact trivial) ?_
          obtain ⟨b_a257, b_n258, b_c259, w260, r261, h⟩ := h
          refine WQ_act rfl gd0 (o_makeSlice rfl rfl r261) rfl (by exact trivial) ?_
          refine WQ_val rfl gd0 (o_build (ps := [(0, .slice b_a252 b_n253 b_c254), (1, .slice b_a245 b_n246 b_c247), (2, .slice b_a257 b_n258 b_c259)]) (v := .agg #[.slice b_a252 b_n253 b_c254, .slice b_a245 b_n246 b_c247, .slice b_a257 b_n258 b_c259]) (partCons rfl (partCons rfl (partCons rfl partNil))) (fun w => by kernel_rfl)) rfl ?_
          obtain ⟨c263, h⟩ := h
          refine WQ_do rfl gd0 (o_storeAgg (vs := [.slice b_a252 b_n253 b_c254, .slice b_a245 b_n246 b_c247, .slice b_a257 b_n258 b_c259]) Try.sizeOf30 (by exact e2_8) rfl rfl c263) (by exact trivial) ?_
          generalize hw262 : setAll w260 p5 0 [.slice b_a252 b_n253 b_c254, .slice b_a245 b_n246 b_c247, .slice b_a257 b_n258 b_c259] = w262 at h ⊢
          try dsimp only at h
          refine WQ_val rfl gd0 (o_assign (v := .int .i64 0) rfl) rfl ?_
          refine WQ_nil ?_
          refine nrm ?_
          refine WC_ret ?_
          refine rtE ?_
          obtain ⟨r_a264, r_n265, r_c266, r_a267, r_n268, r_c269, r_a270, r_n271, r_c272, hc273, h⟩ := h
          exact gvC1 (vs := [.slice r_a264 r_n265 r_c266, .slice r_a267 r_n268 r_c269, .slice r_a270 r_n271 r_c272]) rfl Try.isAgg30 Try.sizeOf30 (by exact e2_8) hc273 rfl h
        · replace h := hf296
          obtain ⟨b_a274, b_n275, b_c276, w277, r278, h⟩ := h
          refine WQ_act rfl gd0 (o_makeSlice rfl rfl r278) rfl (by exact trivial) ?_
          obtain ⟨b_a279, b_n280, b_c281, w282, r283, h⟩ := h
          refine WQ_act rfl gd0 (o_append rfl rfl r283) rfl (by exact trivial) ?_
          refine WQ_val rfl gd0 (o_build (ps := [(0, .slice b_a279 b_n280 b_c281), (1, .slice b_a245 b_n246 b_c247), (2, .slice b_a274 b_n275 b_c276)]) (v := .agg #[.slice b_a279 b_n280 b_c281, .slice b_a245 b_n246 b_c247, .slice b_a274 b_n275 b_c276]) (partCons rfl (partCons rfl (partCons rfl partNil))) (fun w => by kernel_rfl)) rfl ?_
          obtain ⟨c285, h⟩ := h
          refine WQ_do rfl gd0 (o_storeAgg (vs := [.slice b_a279 b_n280 b_c281, .slice b_a245 b_n246 b_c247, .slice b_a274 b_n275 b_c276]) Try.sizeOf30 (by exact e2_8) rfl rfl c285) (by exact trivial) ?_
          generalize hw284 : setAll w282 p5 0 [.slice b_a279 b_n280 b_c281, .slice b_a245 b_n246 b_c247, .slice b_a274 b_n275 b_c276] = w284 at h ⊢
          try dsimp only at h
          refine WQ_val rfl gd0 (o_assign (v := .int .i64 0) rfl) rfl ?_
          refine WQ_nil ?_
          refine nrm ?_
          refine WC_ret ?_
          refine rtE ?_
          obtain ⟨r_a286, r_n287, r_c288, r_a289, r_n290, r_c291, r_a292, r_n293, r_c294, hc295, h⟩ := h
          exact gvC1 (vs := [.slice r_a286 r_n287 r_c288, .slice r_a289 r_n290 r_c291, .slice r_a292 r_n293 r_c294]) rfl Try.isAgg30 Try.sizeOf30 (by exact e2_8) hc295 rfl h
      · replace h := hf321
        obtain ⟨b_a297, b_n298, b_c299, w300, r301, h⟩ := h
        refine WQ_act rfl gd0 (o_makeSlice rfl rfl r301) rfl (by exact trivial) ?_
        have h := New.out h
        refine WQ_act rfl gd0 (o_buildSlice (e := 35) (ps := []) (cs := []) partNil (fun w => by kernel_rfl)) rfl (by exact trivial) ?_
        generalize hp302 : fresh w300 = p302 at h ⊢
        generalize hw303 : push w300 35 [] = w303 at h ⊢
        try dsimp only at h
        obtain ⟨b_a304, b_n305, b_c306, w307, r308, h⟩ := h
        refine WQ_act rfl gd0 (o_append rfl rfl r308) rfl (by exact trivial) ?_
        refine WQ_val rfl gd0 (o_build (ps := [(0, .slice b_a304 b_n305 b_c306), (1, .slice b_a245 b_n246 b_c247), (2, .slice b_a297 b_n298 b_c299)]) (v := .agg #[.slice b_a304 b_n305 b_c306, .slice b_a245 b_n246 b_c247, .slice b_a297 b_n298 b_c299]) (partCons rfl (partCons rfl (partCons rfl partNil))) (fun w => by kernel_rfl)) rfl ?_
        obtain ⟨c310, h⟩ := h
        refine WQ_do rfl gd0 (o_storeAgg (vs := [.slice b_a304 b_n305 b_c306, .slice b_a245 b_n246 b_c247, .slice b_a297 b_n298 b_c299]) Try.sizeOf30 (by exact e2_8) rfl rfl c310) (by exact trivial) ?_
        generalize hw309 : setAll w307 p5 0 [.slice b_a304 b_n305 b_c306, .slice b_a245 b_n246 b_c247, .slice b_a297 b_n298 b_c299] = w309 at h ⊢
        try dsimp only at h
        refine WQ_val rfl gd0 (o_assign (v := .int .i64 0) rfl) rfl ?_
        refine WQ_nil ?_
        refine nrm ?_
        refine WC_ret ?_
        refine rtE ?_
        obtain ⟨r_a311, r_n312, r_c313, r_a314, r_n315, r_c316, r_a317, r_n318, r_c319, hc320, h⟩ := h
        exact gvC1 (vs := [.slice r_a311 r_n312 r_c313, .slice r_a314 r_n315 r_c316, .slice r_a317 r_n318 r_c319]) rfl Try.isAgg30 Try.sizeOf30 (by exact e2_8) hc320 rfl h
    · replace h := hf400
      obtain ⟨b_a322, b_n323, b_c324, w325, r326, h⟩ := h
      refine WQ_act rfl gd0 (o_makeSlice rfl rfl r326) rfl (by exact trivial) ?_
      obtain ⟨h, hf398⟩ := h
      refine WQ_fork ?_ ?_
      · have h := New.out h
        refine WQ_act rfl gd0 (o_buildSlice (e := 35) (ps := []) (cs := []) partNil (fun w => by kernel_rfl)) rfl (by exact trivial) ?_
        generalize hp327 : fresh w325 = p327 at h ⊢
        generalize hw328 : push w325 35 [] = w328 at h ⊢
        try dsimp only at h
        obtain ⟨h, hf373⟩ := h
        refine WQ_fork ?_ ?_
        · obtain ⟨b_a329, b_n330, b_c331, w332, r333, h⟩ := h
          refine WQ_act rfl gd0 (o_append rfl rfl r333) rfl (by exact trivial) ?_
          obtain ⟨b_a334, b_n335, b_c336, w337, r338, h⟩ := h
          refine WQ_act rfl gd0 (o_makeSlice rfl rfl r338) rfl (by exact trivial) ?_
          refine WQ_val rfl gd0 (o_build (ps := [(0, .slice b_a329 b_n330 b_c331), (1, .slice b_a334 b_n335 b_c336), (2, .slice b_a322 b_n323 b_c324)]) (v := .agg #[.slice b_a329 b_n330 b_c331, .slice b_a334 b_n335 b_c336, .slice b_a322 b_n323 b_c324]) (partCons rfl (partCons rfl (partCons rfl partNil))) (fun w => by kernel_rfl)) rfl ?_
          obtain ⟨c340, h⟩ := h
          refine WQ_do rfl gd0 (o_storeAgg (vs := [.slice b_a329 b_n330 b_c331, .slice b_a334 b_n335 b_c336, .slice b_a322 b_n323 b_c324]) Try.sizeOf30 (by exact e2_8) rfl rfl c340) (by exact trivial) ?_
          generalize hw339 : setAll w337 p5 0 [.slice b_a329 b_n330 b_c331, .slice b_a334 b_n335 b_c336, .slice b_a322 b_n323 b_c324] = w339 at h ⊢
          try dsimp only at h
          refine WQ_val rfl gd0 (o_assign (v := .int .i64 0) rfl) rfl ?_
          refine WQ_nil ?_
          refine nrm ?_
          refine WC_ret ?_
          refine rtE ?_
          obtain ⟨r_a341, r_n342, r_c343, r_a344, r_n345, r_c346, r_a347, r_n348, r_c349, hc350, h⟩ := h
          exact gvC1 (vs := [.slice r_a341 r_n342 r_c343, .slice r_a344 r_n345 r_c346, .slice r_a347 r_n348 r_c349]) rfl Try.isAgg30 Try.sizeOf30 (by exact e2_8) hc350 rfl h
        · replace h := hf373
          obtain ⟨b_a351, b_n352, b_c353, w354, r355, h⟩ := h
          refine WQ_act rfl gd0 (o_makeSlice rfl rfl r355) rfl (by exact trivial) ?_
          obtain ⟨b_a356, b_n357, b_c358, w359, r360, h⟩ := h
          refine WQ_act rfl gd0 (o_append rfl rfl r360) rfl (by exact trivial) ?_
          refine WQ_val rfl gd0 (o_build (ps := [(0, .slice b_a356 b_n357 b_c358), (1, .slice b_a351 b_n352 b_c353), (2, .slice b_a322 b_n323 b_c324)]) (v := .agg #[.slice b_a356 b_n357 b_c358, .slice b_a351 b_n352 b_c353, .slice b_a322 b_n323 b_c324]) (partCons rfl (partCons rfl (partCons rfl partNil))) (fun w => by kernel_rfl)) rfl ?_
          obtain ⟨c362, h⟩ := h
          refine WQ_do rfl gd0 (o_storeAgg (vs := [.slice b_a356 b_n357 b_c358, .slice b_a351 b_n352 b_c353, .slice b_a322 b_n323 b_c324]) Try.sizeOf30 (by exact e2_8) rfl rfl c362) (by exact trivial) ?_
          generalize hw361 : setAll w359 p5 0 [.slice b_a356 b_n357 b_c358, .slice b_a351 b_n352 b_c353, .slice b_a322 b_n323 b_c324] = w361 at h ⊢
          try dsimp only at h
          refine WQ_val rfl gd0 (o_assign (v := .int .i64 0) rfl) rfl ?_
          refine WQ_nil ?_
          refine nrm ?_
          refine WC_ret ?_
          refine rtE ?_
          obtain ⟨r_a363, r_n364, r_c365, r_a366, r_n367, r_c368, r_a369, r_n370, r_c371, hc372, h⟩ := h
          exact gvC1 (vs := [.slice r_a363 r_n364 r_c365, .slice r_a366 r_n367 r_c368, .slice r_a369 r_n370 r_c371]) rfl Try.isAgg30 Try.sizeOf30 (by exact e2_8) hc372 rfl h
      · replace h := hf398
        obtain ⟨b_a374, b_n375, b_c376, w377, r378, h⟩ := h
        refine WQ_act rfl gd0 (o_makeSlice rfl rfl r378) rfl (by exact trivial) ?_
        have h := New.out h
        refine WQ_act rfl gd0 (o_buildSlice (e := 35) (ps := []) (cs := []) partNil (fun w => by kernel_rfl)) rfl (by exact trivial) ?_
        generalize hp379 : fresh w377 = p379 at h ⊢
        generalize hw380 : push w377 35 [] = w380 at h ⊢
        try dsimp only at h
        obtain ⟨b_a381, b_n382, b_c383, w384, r385, h⟩ := h
        refine WQ_act rfl gd0 (o_append rfl rfl r385) rfl (by exact trivial) ?_
        refine WQ_val rfl gd0 (o_build (ps := [(0, .slice b_a381 b_n382 b_c383), (1, .slice b_a374 b_n375 b_c376), (2, .slice b_a322 b_n323 b_c324)]) (v := .agg #[.slice b_a381 b_n382 b_c383, .slice b_a374 b_n375 b_c376, .slice b_a322 b_n323 b_c324]) (partCons rfl (partCons rfl (partCons rfl partNil))) (fun w => by kernel_rfl)) rfl ?_
        obtain ⟨c387, h⟩ := h
        refine WQ_do rfl gd0 (o_storeAgg (vs := [.slice b_a381 b_n382 b_c383, .slice b_a374 b_n375 b_c376, .slice b_a322 b_n323 b_c324]) Try.sizeOf30 (by exact e2_8) rfl rfl c387) (by exact trivial) ?_
        generalize hw386 : setAll w384 p5 0 [.slice b_a381 b_n382 b_c383, .slice b_a374 b_n375 b_c376, .slice b_a322 b_n323 b_c324] = w386 at h ⊢
        try dsimp only at h
        refine WQ_val rfl gd0 (o_assign (v := .int .i64 0) rfl) rfl ?_
        refine WQ_nil ?_
        refine nrm ?_
        refine WC_ret ?_
        refine rtE ?_
        obtain ⟨r_a388, r_n389, r_c390, r_a391, r_n392, r_c393, r_a394, r_n395, r_c396, hc397, h⟩ := h
        exact gvC1 (vs := [.slice r_a388 r_n389 r_c390, .slice r_a391 r_n392 r_c393, .slice r_a394 r_n395 r_c396]) rfl Try.isAgg30 Try.sizeOf30 (by exact e2_8) hc397 rfl h

def F10_b2 (at_n81 : Nat) (at_a80 : Option Addr) (p6 : Addr) (at_c82 : Nat) (total86 : Int) (t90 : Int) (w91 : World) (nx91 : Int → Int → World → Prop) (k : Value → World → Prop) : Prop :=
  if t90 < (at_n81 : Int) then
  ∃ (p96 : Addr), at_a80 = some p96 ∧ (0 : Int) ≤ t90 ∧ t90 < (at_n81 : Int) ∧ ∃ (i98 : Int), w91.cell? (p96.add t90.toNat) = some (.int .i64 i98) ∧ ∃ (x100 : Option Addr), w91.drew.cell? p6 = some (.pointer x100) ∧ ∃ (p102 : Addr), x100 = some p102 ∧ ∃ (x_a104 : Option Addr) (x_n105 x_c106 : Nat), w91.drew.cell? p102 = some (.slice x_a104 x_n105 x_c106) ∧ ∃ (p110 : Addr), x_a104 = some p110 ∧ (0 : Int) ≤ i98 ∧ i98 < (x_n105 : Int) ∧ ∃ (x112 : Int), w91.drew.cell? ((p110.add (i98.toNat * 5)).add 3) = some (.int .i64 x112) ∧ ∃ (x114 : Option Addr), w91.drew.cell? p6 = some (.pointer x114) ∧ ∃ (p116 : Addr), x114 = some p116 ∧ ∃ (x_a118 : Option Addr) (x_n119 x_c120 : Nat), w91.drew.cell? p116 = some (.slice x_a118 x_n119 x_c120) ∧ ∃ (p124 : Addr), x_a118 = some p124 ∧ (0 : Int) ≤ i98 ∧ i98 < (x_n119 : Int) ∧ ∃ (x126 : Int), w91.drew.cell? ((p124.add (i98.toNat * 5)).add 2) = some (.int .i64 x126) ∧ (0 : Int) ≤ i98 ∧ i98 < (x_n105 : Int) ∧ Put w91.drew ((p110.add (i98.toNat * 5)).add 3) (.int .i64 (IntKind.i64.wrap (x112 + x126))) (fun w130 => ∃ (x132 : Option Addr), w130.cell? p6 = some (.pointer x132) ∧ ∃ (p134 : Addr), x132 = some p134 ∧ ∃ (x_a136 : Option Addr) (x_n137 x_c138 : Nat), w130.cell? p134 = some (.slice x_a136 x_n137 x_c138) ∧ ∃ (p142 : Addr), x_a136 = some p142 ∧ (0 : Int) ≤ i98 ∧ i98 < (x_n137 : Int) ∧ ∃ (x144 : Int), w130.cell? ((p142.add (i98.toNat * 5)).add 2) = some (.int .i64 x144) ∧ nx91 (IntKind.i64.wrap (total86 + x144)) (IntKind.i64.wrap (t90 + 1)) w130)
else
  Does Try.prog 18 #[.slice at_a80 at_n81 at_c82, .func (.func 23) #[] #[.pointer (some p6)]] w91 (fun v w146 => ∃ (selected147 : Int), v = .int .i64 selected147 ∧ ∃ (x148 : Option Addr), w146.cell? p6 = some (.pointer x148) ∧ ∃ (p150 : Addr), x148 = some p150 ∧ ∃ (x_a152 : Option Addr) (x_n153 x_c154 : Nat), w146.cell? p150 = some (.slice x_a152 x_n153 x_c154) ∧ ∃ (p158 : Addr), x_a152 = some p158 ∧ (0 : Int) ≤ selected147 ∧ selected147 < (x_n153 : Int) ∧ ∃ (x160 : Int), w146.cell? ((p158.add (selected147.toNat * 5)).add 3) = some (.int .i64 x160) ∧ (0 : Int) ≤ selected147 ∧ selected147 < (x_n153 : Int) ∧ Put w146 ((p158.add (selected147.toNat * 5)).add 3) (.int .i64 (IntKind.i64.wrap (x160 - total86))) (fun w164 => ∃ (x166 : Option Addr), w164.cell? p6 = some (.pointer x166) ∧ ∃ (p168 : Addr), x166 = some p168 ∧ ∃ (x_a170 : Option Addr) (x_n171 x_c172 : Nat), w164.cell? p168 = some (.slice x_a170 x_n171 x_c172) ∧ ∃ (p176 : Addr), x_a170 = some p176 ∧ (0 : Int) ≤ selected147 ∧ selected147 < (x_n171 : Int) ∧ ∃ (x178 : Int), w164.cell? ((p176.add (selected147.toNat * 5)).add 4) = some (.int .i64 x178) ∧ (0 : Int) ≤ selected147 ∧ selected147 < (x_n171 : Int) ∧ Put w164 ((p176.add (selected147.toNat * 5)).add 4) (.int .i64 (IntKind.i64.wrap (x178 + 1))) (fun w182 => ∃ (x184 : Option Addr), w182.cell? p6 = some (.pointer x184) ∧ ∃ (p186 : Addr), x184 = some p186 ∧ ∃ (x_a188 : Option Addr) (x_n189 x_c190 : Nat), w182.cell? p186 = some (.slice x_a188 x_n189 x_c190) ∧ ∃ (p194 : Addr), x_a188 = some p194 ∧ (0 : Int) ≤ selected147 ∧ selected147 < (x_n189 : Int) ∧ ∃ (t196 : Int), w182.cell? (p194.add (selected147.toNat * 5)) = some (.int .i64 t196) ∧ k (.tuple #[.int .i64 t196, .bool true]) w182)))
def F10_b1 (x_n16 : Nat) (x_a15 : Option Addr) (ready_a2 : Option Addr) (ready_n3 : Nat) (ready_c4 : Nat) (p6 : Addr) (at_a22 : Option Addr) (at_n23 : Nat) (at_c24 : Nat) (t28 : Int) (w29 : World) (nx29 : Option Addr → Nat → Nat → Int → World → Prop) (k : Value → World → Prop) : Prop :=
  if t28 < (x_n16 : Int) then
  ∃ (p34 : Addr), x_a15 = some p34 ∧ (0 : Int) ≤ t28 ∧ t28 < (x_n16 : Int) ∧ ∃ (x36 x37 x38 x39 x40 : Int), Cells w29 (p34.add (t28.toNat * 5)) 0 [.int .i64 x36, .int .i64 x37, .int .i64 x38, .int .i64 x39, .int .i64 x40] ∧ New w29 52 [.int .i64 0, .int .i64 0, .int .i64 0, .int .i64 0, .int .i64 0] (fun p42 w43 => PutAll w43 p42 [.int .i64 x36, .int .i64 x37, .int .i64 x38, .int .i64 x39, .int .i64 x40] (fun w44 => ∃ (x46 : Int), w44.cell? p42 = some (.int .i64 x46) ∧ Does Try.prog 17 #[.slice ready_a2 ready_n3 ready_c4, .int .i64 x46] w44 (fun v w48 => ∃ (x49 : Bool), v = .bool x49 ∧ if x49 = true then
    New w48 3 [.int .i64 t28] (fun p51 w52 => ∃ (b_a53 : Option Addr) (b_n54 b_c55 : Nat) (w56 : World), (Builtin.append_ #[28, 28] 28 #[.slice at_a22 at_n23 at_c24, .slice (some p51) 1 1]).run Try.prog w52 = .ok (.slice b_a53 b_n54 b_c55) w56 ∧ nx29 b_a53 b_n54 b_c55 (IntKind.i64.wrap (t28 + 1)) w56)
  else
    nx29 at_a22 at_n23 at_c24 (IntKind.i64.wrap (t28 + 1)) w48)))
else
  if (at_n23 : Int) = 0 then
    k (.tuple #[.int .i64 0, .bool false]) w29
  else
    Does Try.prog 18 #[.slice at_a22 at_n23 at_c24, .func (.func 19) #[] #[.pointer (some p6)]] w29 (fun v w59 => ∃ (best60 : Int), v = .int .i64 best60 ∧ ∃ (x61 : Option Addr), w59.cell? p6 = some (.pointer x61) ∧ ∃ (p63 : Addr), x61 = some p63 ∧ ∃ (x_a65 : Option Addr) (x_n66 x_c67 : Nat), w59.cell? p63 = some (.slice x_a65 x_n66 x_c67) ∧ ∃ (p71 : Addr), x_a65 = some p71 ∧ (0 : Int) ≤ best60 ∧ best60 < (x_n66 : Int) ∧ ∃ (x73 : Int), w59.cell? ((p71.add (best60.toNat * 5)).add 1) = some (.int .i64 x73) ∧ New w59 3 [.int .i64 0] (fun p75 w76 => Put w76 p75 (.int .i64 x73) (fun w77 => Does Try.prog 21 #[.slice at_a22 at_n23 at_c24, .func (.func 22) #[] #[.pointer (some p6), .pointer (some p75)]] w77 (fun v w79 => ∃ (at_a80 : Option Addr) (at_n81 at_c82 : Nat), v = .slice at_a80 at_n81 at_c82 ∧ LoopP (fun (s : Int × Int) w' nx' => F10_b2 at_n81 at_a80 p6 at_c82 (s.1) (s.2) w' (fun x0 x1 w => nx' (x0, x1) w) k) (0, 0) w79))))
/-- (*spacecraft mux.Mux).Next -/
def F10 (m1 : Option Addr) (ready_a2 : Option Addr) (ready_n3 : Nat) (ready_c4 : Nat) (w5 : World) (k : Value → World → Prop) : Prop :=
  New w5 24 [.pointer m1] (fun p6 w7 => ∃ (x8 : Option Addr), w7.cell? p6 = some (.pointer x8) ∧ if (x8).isNone = true then
  k (.tuple #[.int .i64 0, .bool false]) w7
else
  ∃ (x11 : Option Addr), w7.cell? p6 = some (.pointer x11) ∧ ∃ (p13 : Addr), x11 = some p13 ∧ ∃ (x_a15 : Option Addr) (x_n16 x_c17 : Nat), w7.cell? p13 = some (.slice x_a15 x_n16 x_c17) ∧ LoopP (fun (s : Option Addr × Nat × Nat × Int) w' nx' => F10_b1 x_n16 x_a15 ready_a2 ready_n3 ready_c4 p6 (s.1) (s.2.1) (s.2.2.1) (s.2.2.2) w' (fun x0 x1 x2 x3 w => nx' (x0, x1, x2, x3) w) k) (none, 0, 0, 0) w7)
set_option maxRecDepth 100000 in
set_option maxHeartbeats 2000000 in
theorem w10 (m1 : Option Addr) (ready_a2 : Option Addr) (ready_n3 : Nat) (ready_c4 : Nat) (w5 : World) (k : Value → World → Prop) (h : F10 m1 ready_a2 ready_n3 ready_c4 w5 k) : Does Try.prog 10 #[.pointer m1, .slice ready_a2 ready_n3 ready_c4] w5 k := by
  refine enter 128 Try.func10 rfl rfl rfl ?_
  intro ρ hρ
  have e0 := hρ 0 _ rfl
  have e1 := hρ 1 _ rfl
  unfold F10 at h
  refine WC_seq ?_
  refine WC_region ?_
  have h := New.out h
  refine WL_val gd0 (o_box (v := .pointer m1) (cs := [.pointer m1]) (by exact e0) rfl) rfl ?_
  generalize hp6 : fresh w5 = p6 at h ⊢
  generalize hw7 : push w5 24 [.pointer m1] = w7 at h ⊢
  try dsimp only at h
  refine WL_val gd0 ((o_assign (v := .int .i64 0) rfl) _) rfl ?_
  refine WL_val gd0 ((o_assign (v := .bool false) rfl) _) rfl ?_
  refine WL_nil ?_
  refine nrm ?_
  refine WC_seq ?_
  refine WC_seq ?_
  refine WC_region ?_
  obtain ⟨x8, hc9, h⟩ := h
  refine WL_val gd0 (o_load Try.isAgg24 rfl hc9) rfl ?_
  refine WL_val gd0 ((o_eqlPtrNil Try.underlying24 rfl rfl) _) rfl ?_
  refine WL_nil ?_
  refine nrm ?_
  refine WC_cond (t := ((x8).isNone)) rfl (fun hb10 => ?_) (fun hb10 => ?_)
  · rw [if_pos hb10] at h
    refine WC_seq ?_
    refine WC_region ?_
    refine WL_val gd0 ((o_assign (v := .int .i64 0) rfl) _) rfl ?_
    refine WL_val gd0 ((o_assign (v := .bool false) rfl) _) rfl ?_
    refine WL_nil ?_
    refine nrm ?_
    refine WC_ret ?_
    refine rtT ?_
    refine rtE ?_
    exact gv2 rfl rfl rfl h
  · rw [if_neg (neT hb10)] at h
    refine WC_skip ?_
    refine nrm ?_
    refine WC_seq ?_
    refine WC_region ?_
    refine WL_val gd0 ((o_assign (v := .slice none 0 0) rfl) _) rfl ?_
    refine WL_nil ?_
    refine nrm ?_
    refine WC_seq ?_
    refine WC_seq ?_
    refine WC_region ?_
    obtain ⟨x11, hc12, h⟩ := h
    refine WL_val gd0 (o_load Try.isAgg24 rfl hc12) rfl ?_
    obtain ⟨p13, q14, h⟩ := h
    refine WL_val gd0 ((o_nilCheck (by exact (congrArg Value.pointer q14))) _) rfl ?_
    refine WL_val gd0 ((o_fieldAddr0 Try.underlying50 rfl Try.sizeOf48 rfl rfl rfl) _) rfl ?_
    obtain ⟨x_a15, x_n16, x_c17, hc18, h⟩ := h
    refine WL_val gd0 (o_load Try.isAgg48 rfl hc18) rfl ?_
    refine WL_val gd0 ((o_len Try.underlying48 rfl) _) rfl ?_
    refine WL_val gd0 ((o_move (v := .int .i64 0) rfl) _) rfl ?_
    refine WL_nil ?_
    refine nrm ?_
    refine WC_block ?_
    obtain ⟨J29, ⟨n29, h0⟩, hr29⟩ := h
    refine WC_loop (fun n ρ w' => ∃ (at_a22 : Option Addr) (at_n23 at_c24 : Nat) (t28 : Int), ρ 6 = .slice at_a22 at_n23 at_c24 ∧ ρ 22 = .int .i64 t28 ∧ ρ 1 = .slice ready_a2 ready_n3 ready_c4 ∧ ρ 2 = .pointer (some p6) ∧ ρ 20 = .slice x_a15 x_n16 x_c17 ∧ ρ 21 = .int .i64 (x_n16 : Int) ∧ J29 n (at_a22, at_n23, at_c24, t28) w') ⟨n29, _, _, _, _, rfl, rfl, e1, rfl, rfl, rfl, h0⟩ ?_
    rintro n29 ρ w29 ⟨at_a22, at_n23, at_c24, t28, e6_21, e22_27, e1_19, e2_20, e20_25, e21_26, h⟩
    have h : F10_b1 x_n16 x_a15 ready_a2 ready_n3 ready_c4 p6 at_a22 at_n23 at_c24 t28 w29 (fun x0 x1 x2 x3 w => ∃ m, m < n29 ∧ J29 m (x0, x1, x2, x3) w) k := hr29 n29 (at_a22, at_n23, at_c24, t28) w29 h
    unfold F10_b1 at h
    refine WC_seq ?_
    refine WC_region ?_
    refine WL_val gd0 ((o_lss (by exact e22_27) (by exact e21_26)) _) rfl ?_
    refine WL_nil ?_
    refine nrm ?_
    refine WC_seq ?_
    refine WC_cond (t := (decide (t28 < (x_n16 : Int)))) rfl (fun hb31 => ?_) (fun hb31 => ?_)
    · rw [if_pos (of_decide_eq_true hb31)] at h
      refine WC_skip ?_
      refine nrm ?_
      refine WC_seq ?_
      refine WC_block ?_
      refine WC_seq ?_
      refine WC_region ?_
      refine WL_val gd0 ((o_move (v := .int .i64 t28) (by exact e22_27)) _) rfl ?_
      obtain ⟨p34, q35, h⟩ := h
      obtain ⟨l32, u33, h⟩ := h
      refine WL_val gd0 ((o_indexAddr Try.underlying48 Try.sizeOf52 (by exact (Eq.trans e20_25 (congrArg (fun z => Value.slice z x_n16 x_c17) q35))) (by exact e22_27) l32 u33) _) rfl ?_
      obtain ⟨x36, x37, x38, x39, x40, hc41, h⟩ := h
      refine WL_val gd0 (o_loadAgg (vs := [.int .i64 x36, .int .i64 x37, .int .i64 x38, .int .i64 x39, .int .i64 x40]) Try.isAgg52 Try.sizeOf52 rfl hc41) rfl ?_
      have h := New.out h
      refine WL_val gd0 (o_alloc (z := .agg #[.int .i64 0, .int .i64 0, .int .i64 0, .int .i64 0, .int .i64 0]) (cs := [.int .i64 0, .int .i64 0, .int .i64 0, .int .i64 0, .int .i64 0]) Try.zeroValue52 rfl) rfl ?_
      generalize hp42 : fresh w29 = p42 at h ⊢
      generalize hw43 : push w29 52 [.int .i64 0, .int .i64 0, .int .i64 0, .int .i64 0, .int .i64 0] = w43 at h ⊢
      try dsimp only at h
      refine WL_val gd0 ((o_assign (v := .int .i64 t28) rfl) _) rfl ?_
      obtain ⟨c45, h⟩ := h
      refine WL_act gd0 (o_storeAgg (vs := [.int .i64 x36, .int .i64 x37, .int .i64 x38, .int .i64 x39, .int .i64 x40]) Try.sizeOf52 rfl rfl rfl c45) ?_
      generalize hw44 : setAll w43 p42 0 [.int .i64 x36, .int .i64 x37, .int .i64 x38, .int .i64 x39, .int .i64 x40] = w44 at h ⊢
      try dsimp only at h
      refine WL_nil ?_
      refine nrm ?_
      refine WC_seq ?_
      refine WC_region ?_
      refine WL_val gd0 ((o_move (v := .slice ready_a2 ready_n3 ready_c4) (by exact e1_19)) _) rfl ?_
      refine WL_val gd0 ((o_fieldAddr0 Try.underlying52 rfl Try.sizeOf35 rfl rfl rfl) _) rfl ?_
      refine WL_val gd0 ((o_fieldAddr0 Try.underlying35 rfl Try.sizeOf3 rfl rfl rfl) _) rfl ?_
      obtain ⟨x46, hc47, h⟩ := h
      refine WL_val gd0 (o_load Try.isAgg3 rfl hc47) rfl ?_
      refine WL_call gd0 (o_call Try.call17 (argCons rfl (argCons rfl argNil)) _) rfl (h.mono ?_)
      rintro _ w48 ⟨x49, rfl, h⟩
      refine WL_nil ?_
      refine nrm ?_
      refine WC_cond (t := x49) rfl (fun hb50 => ?_) (fun hb50 => ?_)
      · rw [if_pos hb50] at h
        refine WC_region ?_
        refine WL_val gd0 ((o_move (v := .slice at_a22 at_n23 at_c24) (by exact e6_21)) _) rfl ?_
        refine WL_val gd0 ((o_move (v := .int .i64 t28) rfl) _) rfl ?_
        have h := New.out h
        refine WL_val gd0 (o_buildSlice (e := 3) (ps := [(0, .int .i64 t28)]) (cs := [.int .i64 t28]) (partCons rfl partNil) (fun w => by kernel_rfl)) rfl ?_
        generalize hp51 : fresh w48 = p51 at h ⊢
        generalize hw52 : push w48 3 [.int .i64 t28] = w52 at h ⊢
        try dsimp only at h
        obtain ⟨b_a53, b_n54, b_c55, w56, r57, h⟩ := h
        refine WL_val gd0 (o_append rfl rfl r57) rfl ?_
        refine WL_val gd0 ((o_assign (v := .slice b_a53 b_n54 b_c55) rfl) _) rfl ?_
        refine WL_nil ?_
        refine nrmB ?_
        refine nrm ?_
        refine WC_region ?_
        refine WL_val gd0 ((o_add (by exact e22_27) rfl) _) rfl ?_
        refine WL_val gd0 ((o_move (v := .int .i64 (IntKind.i64.wrap (t28 + 1))) rfl) _) rfl ?_
        refine WL_nil ?_
        refine nrm ?_
        obtain ⟨m30, hm30, h⟩ := h
        exact ⟨m30, hm30, _, _, _, _, rfl, rfl, e1_19, e2_20, e20_25, e21_26, h⟩
      · rw [if_neg (neT hb50)] at h
        refine WC_skip ?_
        refine nrmB ?_
        refine nrm ?_
        refine WC_region ?_
        refine WL_val gd0 ((o_add (by exact e22_27) rfl) _) rfl ?_
        refine WL_val gd0 ((o_move (v := .int .i64 (IntKind.i64.wrap (t28 + 1))) rfl) _) rfl ?_
        refine WL_nil ?_
        refine nrm ?_
        obtain ⟨m30, hm30, h⟩ := h
        exact ⟨m30, hm30, _, _, _, _, e6_21, rfl, e1_19, e2_20, e20_25, e21_26, h⟩
    · rw [if_neg (of_decide_eq_false hb31)] at h
      refine WC_exit ?_
      refine exT ?_
      refine exT ?_
      refine exB ?_
      refine nrm ?_
      refine WC_seq ?_
      refine WC_seq ?_
      refine WC_region ?_
      refine WL_val gd0 ((o_move (v := .slice at_a22 at_n23 at_c24) (by exact e6_21)) _) rfl ?_
      refine WL_val gd0 ((o_len Try.underlying28 rfl) _) rfl ?_
      refine WL_val gd0 ((o_eql rfl rfl) _) rfl ?_
      refine WL_nil ?_
      refine nrm ?_
      refine WC_cond (t := (decide ((at_n23 : Int) = 0))) rfl (fun hb58 => ?_) (fun hb58 => ?_)
      · rw [if_pos (of_decide_eq_true hb58)] at h
        refine WC_seq ?_
        refine WC_region ?_
        refine WL_val gd0 ((o_assign (v := .int .i64 0) rfl) _) rfl ?_
        refine WL_val gd0 ((o_assign (v := .bool false) rfl) _) rfl ?_
        refine WL_nil ?_
        refine nrm ?_
        refine WC_ret ?_
        refine rtT ?_
        refine rtE ?_
        exact gv2 rfl rfl rfl h
      · rw [if_neg (of_decide_eq_false hb58)] at h
        refine WC_skip ?_
        refine nrm ?_
        refine WC_seq ?_
        refine WC_region ?_
        refine WL_val gd0 ((o_move (v := .slice at_a22 at_n23 at_c24) (by exact e6_21)) _) rfl ?_
        refine WL_val gd0 ((o_makeFunc (vs := []) (us := [.pointer (some p6)]) argNil (argCons (by exact e2_20) argNil)) _) rfl ?_
        refine WL_call gd0 (o_call Try.call18 (argCons rfl (argCons rfl argNil)) _) rfl (h.mono ?_)
        rintro _ w59 ⟨best60, rfl, h⟩
        refine WL_val gd0 ((o_assign (v := .int .i64 best60) rfl) _) rfl ?_
        refine WL_nil ?_
        refine nrm ?_
        refine WC_seq ?_
        refine WC_region ?_
        obtain ⟨x61, hc62, h⟩ := h
        refine WL_val gd0 (o_load Try.isAgg24 (by exact e2_20) hc62) rfl ?_
        obtain ⟨p63, q64, h⟩ := h
        refine WL_val gd0 ((o_nilCheck (by exact (congrArg Value.pointer q64))) _) rfl ?_
        refine WL_val gd0 ((o_fieldAddr0 Try.underlying50 rfl Try.sizeOf48 rfl rfl rfl) _) rfl ?_
        obtain ⟨x_a65, x_n66, x_c67, hc68, h⟩ := h
        refine WL_val gd0 (o_load Try.isAgg48 rfl hc68) rfl ?_
        refine WL_val gd0 ((o_move (v := .int .i64 best60) rfl) _) rfl ?_
        obtain ⟨p71, q72, h⟩ := h
        obtain ⟨l69, u70, h⟩ := h
        refine WL_val gd0 ((o_indexAddr Try.underlying48 Try.sizeOf52 (by exact (congrArg (fun z => Value.slice z x_n66 x_c67) q72)) rfl l69 u70) _) rfl ?_
        refine WL_val gd0 ((o_fieldAddr0 Try.underlying52 rfl Try.sizeOf35 rfl rfl rfl) _) rfl ?_
        refine WL_val gd0 ((o_fieldAddr 1 Try.underlying35 rfl Try.sizeOf3 rfl rfl rfl) _) rfl ?_
        obtain ⟨x73, hc74, h⟩ := h
        refine WL_val gd0 (o_load Try.isAgg3 rfl hc74) rfl ?_
        have h := New.out h
        refine WL_val gd0 (o_alloc (z := .int .i64 0) (cs := [.int .i64 0]) Try.zeroValue3 rfl) rfl ?_
        generalize hp75 : fresh w59 = p75 at h ⊢
        generalize hw76 : push w59 3 [.int .i64 0] = w76 at h ⊢
        try dsimp only at h
        obtain ⟨c78, h⟩ := h
        refine WL_act gd0 (o_store (v := .int .i64 x73) Try.sizeOf3 rfl rfl rfl c78) ?_
        generalize hw77 : World.setCell w76 p75 (.int .i64 x73) = w77 at h ⊢
        try dsimp only at h
        refine WL_nil ?_
        refine nrm ?_
        refine WC_seq ?_
        refine WC_region ?_
        refine WL_val gd0 ((o_move (v := .slice at_a22 at_n23 at_c24) (by exact e6_21)) _) rfl ?_
        refine WL_val gd0 ((o_makeFunc (vs := []) (us := [.pointer (some p6), .pointer (some p75)]) argNil (argCons (by exact e2_20) (argCons rfl argNil))) _) rfl ?_
        refine WL_call gd0 (o_call Try.call21 (argCons rfl (argCons rfl argNil)) _) rfl (h.mono ?_)
        rintro _ w79 ⟨at_a80, at_n81, at_c82, rfl, h⟩
        refine WL_val gd0 ((o_assign (v := .slice at_a80 at_n81 at_c82) rfl) _) rfl ?_
        refine WL_nil ?_
        refine nrm ?_
        refine WC_seq ?_
        refine WC_region ?_
        refine WL_val gd0 ((o_assign (v := .int .i64 0) rfl) _) rfl ?_
        refine WL_nil ?_
        refine nrm ?_
        refine WC_seq ?_
        refine WC_seq ?_
        refine WC_region ?_
        refine WL_val gd0 ((o_move (v := .slice at_a80 at_n81 at_c82) rfl) _) rfl ?_
        refine WL_val gd0 ((o_len Try.underlying28 rfl) _) rfl ?_
        refine WL_val gd0 ((o_move (v := .int .i64 0) rfl) _) rfl ?_
        refine WL_nil ?_
        refine nrm ?_
        refine WC_block ?_
        obtain ⟨J91, ⟨n91, h0⟩, hr91⟩ := h
        refine WC_loop (fun n ρ w' => ∃ (total86 t90 : Int), ρ 11 = .int .i64 total86 ∧ ρ 57 = .int .i64 t90 ∧ ρ 2 = .pointer (some p6) ∧ ρ 6 = .slice at_a80 at_n81 at_c82 ∧ ρ 55 = .slice at_a80 at_n81 at_c82 ∧ ρ 56 = .int .i64 (at_n81 : Int) ∧ J91 n (total86, t90) w') ⟨n91, _, _, rfl, rfl, e2_20, rfl, rfl, rfl, h0⟩ ?_
        rintro n91 ρ w91 ⟨total86, t90, e11_85, e57_89, e2_83, e6_84, e55_87, e56_88, h⟩
        have h : F10_b2 at_n81 at_a80 p6 at_c82 total86 t90 w91 (fun x0 x1 w => ∃ m, m < n91 ∧ J91 m (x0, x1) w) k := hr91 n91 (total86, t90) w91 h
        unfold F10_b2 at h
        refine WC_seq ?_
        refine WC_region ?_
        refine WL_val gd0 ((o_lss (by exact e57_89) (by exact e56_88)) _) rfl ?_
        refine WL_nil ?_
        refine nrm ?_
        refine WC_seq ?_
        refine WC_cond (t := (decide (t90 < (at_n81 : Int)))) rfl (fun hb93 => ?_) (fun hb93 => ?_)
        · rw [if_pos (of_decide_eq_true hb93)] at h
          refine WC_skip ?_
          refine nrm ?_
          refine WC_seq ?_
          refine WC_block ?_
          refine WC_seq ?_
          refine WC_region ?_
          obtain ⟨p96, q97, h⟩ := h
          obtain ⟨l94, u95, h⟩ := h
          refine WL_val gd0 ((o_indexAddr1 Try.underlying28 Try.sizeOf3 (by exact (Eq.trans e55_87 (congrArg (fun z => Value.slice z at_n81 at_c82) q97))) (by exact e57_89) l94 u95) _) rfl ?_
          obtain ⟨i98, hc99, h⟩ := h
          refine WL_val gd0 (o_load Try.isAgg3 rfl hc99) rfl ?_
          refine WL_val gd0 ((o_assign (v := .int .i64 i98) rfl) _) rfl ?_
          refine WL_nil ?_
          refine nrm ?_
          refine WC_seq ?_
          refine WC_draws [20] (.look 0 (.look 1 (.look 2 (.look 3 (.look 4 (.look 5 (.look 6 (.look 7 (.look 8 (.look 9 (.look 10 (.look 11 (.look 12 (.look 13 (.look 14 (.look 15 (.look 16 (.look 17 (.look 18 (.look 19 (.act 20 .nil))))))))))))))))))))) Try.mixed (by kernel_rfl) ?_
          obtain ⟨x100, hc101, h⟩ := h
          refine WQ_look (fun w => w.cell? p6 = some (.pointer x100)) rfl gd0 (fun w hc => (o_load Try.isAgg24 (by exact e2_83) hc)) hc101 rfl ?_
          obtain ⟨p102, q103, h⟩ := h
          refine WQ_val rfl gd0 (o_nilCheck (by exact (congrArg Value.pointer q103))) rfl ?_
          refine WQ_val rfl gd0 (o_fieldAddr0 Try.underlying50 rfl Try.sizeOf48 rfl rfl rfl) rfl ?_
          obtain ⟨x_a104, x_n105, x_c106, hc107, h⟩ := h
          refine WQ_look (fun w => w.cell? p102 = some (.slice x_a104 x_n105 x_c106)) rfl gd0 (fun w hc => (o_load Try.isAgg48 rfl hc)) hc107 rfl ?_
          refine WQ_val rfl gd0 (o_move (v := .int .i64 i98) rfl) rfl ?_
          obtain ⟨p110, q111, h⟩ := h
          obtain ⟨l108, u109, h⟩ := h
          refine WQ_val rfl gd0 (o_indexAddr Try.underlying48 Try.sizeOf52 (by exact (congrArg (fun z => Value.slice z x_n105 x_c106) q111)) rfl l108 u109) rfl ?_
          refine WQ_val rfl gd0 (o_fieldAddr 3 Try.underlying52 rfl Try.sizeOf3 rfl rfl rfl) rfl ?_
          obtain ⟨x112, hc113, h⟩ := h
          refine WQ_look (fun w => w.cell? ((p110.add (i98.toNat * 5)).add 3) = some (.int .i64 x112)) rfl gd0 (fun w hc => (o_load Try.isAgg3 rfl hc)) hc113 rfl ?_
          obtain ⟨x114, hc115, h⟩ := h
          refine WQ_look (fun w => w.cell? p6 = some (.pointer x114)) rfl gd0 (fun w hc => (o_load Try.isAgg24 (by exact e2_83) hc)) hc115 rfl ?_
          obtain ⟨p116, q117, h⟩ := h
          refine WQ_val rfl gd0 (o_nilCheck (by exact (congrArg Value.pointer q117))) rfl ?_
          refine WQ_val rfl gd0 (o_fieldAddr0 Try.underlying50 rfl Try.sizeOf48 rfl rfl rfl) rfl ?_
          obtain ⟨x_a118, x_n119, x_c120, hc121, h⟩ := h
          refine WQ_look (fun w => w.cell? p116 = some (.slice x_a118 x_n119 x_c120)) rfl gd0 (fun w hc => (o_load Try.isAgg48 rfl hc)) hc121 rfl ?_
          refine WQ_val rfl gd0 (o_move (v := .int .i64 i98) rfl) rfl ?_
          obtain ⟨p124, q125, h⟩ := h
          obtain ⟨l122, u123, h⟩ := h
          refine WQ_val rfl gd0 (o_indexAddr Try.underlying48 Try.sizeOf52 (by exact (congrArg (fun z => Value.slice z x_n119 x_c120) q125)) rfl l122 u123) rfl ?_
          refine WQ_val rfl gd0 (o_fieldAddr0 Try.underlying52 rfl Try.sizeOf35 rfl rfl rfl) rfl ?_
          refine WQ_val rfl gd0 (o_fieldAddr 2 Try.underlying35 rfl Try.sizeOf3 rfl rfl rfl) rfl ?_
          obtain ⟨x126, hc127, h⟩ := h
          refine WQ_look (fun w => w.cell? ((p124.add (i98.toNat * 5)).add 2) = some (.int .i64 x126)) rfl gd0 (fun w hc => (o_load Try.isAgg3 rfl hc)) hc127 rfl ?_
          refine WQ_val rfl gd0 (o_add rfl rfl) rfl ?_
          obtain ⟨l128, u129, h⟩ := h
          refine WQ_val rfl gd0 (o_indexAddr Try.underlying48 Try.sizeOf52 (by exact (congrArg (fun z => Value.slice z x_n105 x_c106) q111)) rfl l128 u129) rfl ?_
          refine WQ_val rfl gd0 (o_fieldAddr 3 Try.underlying52 rfl Try.sizeOf3 rfl rfl rfl) rfl ?_
          obtain ⟨c131, h⟩ := h
          refine WQ_do rfl gd0 (o_store (v := .int .i64 (IntKind.i64.wrap (x112 + x126))) Try.sizeOf3 rfl rfl rfl c131) (by exact ⟨⟨⟨⟨⟨⟨trivial, depT (by kernel_rfl)⟩, depT (by kernel_rfl)⟩, depT (by kernel_rfl)⟩, depT (by kernel_rfl)⟩, depT (by kernel_rfl)⟩, depT (by kernel_rfl)⟩) ?_
          generalize hw130 : World.setCell w91.drew ((p110.add (i98.toNat * 5)).add 3) (.int .i64 (IntKind.i64.wrap (x112 + x126))) = w130 at h ⊢
          try dsimp only at h
          refine WQ_nil ?_
          refine nrm ?_
          refine WC_region ?_
          refine WL_val gd0 ((o_move (v := .int .i64 total86) (by exact e11_85)) _) rfl ?_
          obtain ⟨x132, hc133, h⟩ := h
          refine WL_val gd0 (o_load Try.isAgg24 (by exact e2_83) hc133) rfl ?_
          obtain ⟨p134, q135, h⟩ := h
          refine WL_val gd0 ((o_nilCheck (by exact (congrArg Value.pointer q135))) _) rfl ?_
          refine WL_val gd0 ((o_fieldAddr0 Try.underlying50 rfl Try.sizeOf48 rfl rfl rfl) _) rfl ?_
          obtain ⟨x_a136, x_n137, x_c138, hc139, h⟩ := h
          refine WL_val gd0 (o_load Try.isAgg48 rfl hc139) rfl ?_
          refine WL_val gd0 ((o_move (v := .int .i64 i98) rfl) _) rfl ?_
          obtain ⟨p142, q143, h⟩ := h
          obtain ⟨l140, u141, h⟩ := h
          refine WL_val gd0 ((o_indexAddr Try.underlying48 Try.sizeOf52 (by exact (congrArg (fun z => Value.slice z x_n137 x_c138) q143)) rfl l140 u141) _) rfl ?_
          refine WL_val gd0 ((o_fieldAddr0 Try.underlying52 rfl Try.sizeOf35 rfl rfl rfl) _) rfl ?_
          refine WL_val gd0 ((o_fieldAddr 2 Try.underlying35 rfl Try.sizeOf3 rfl rfl rfl) _) rfl ?_
          obtain ⟨x144, hc145, h⟩ := h
          refine WL_val gd0 (o_load Try.isAgg3 rfl hc145) rfl ?_
          refine WL_val gd0 ((o_add rfl rfl) _) rfl ?_
          refine WL_val gd0 ((o_assign (v := .int .i64 (IntKind.i64.wrap (total86 + x144))) rfl) _) rfl ?_
          refine WL_nil ?_
          refine nrmB ?_
          refine nrm ?_
          refine WC_region ?_
          refine WL_val gd0 ((o_add (by exact e57_89) rfl) _) rfl ?_
          refine WL_val gd0 ((o_move (v := .int .i64 (IntKind.i64.wrap (t90 + 1))) rfl) _) rfl ?_
          refine WL_nil ?_
          refine nrm ?_
          obtain ⟨m92, hm92, h⟩ := h
          exact ⟨m92, hm92, _, _, rfl, rfl, e2_83, e6_84, e55_87, e56_88, h⟩
        · rw [if_neg (of_decide_eq_false hb93)] at h
          refine WC_exit ?_
          refine exT ?_
          refine exT ?_
          refine exB ?_
          refine nrm ?_
          refine WC_seq ?_
          refine WC_region ?_
          refine WL_val gd0 ((o_move (v := .slice at_a80 at_n81 at_c82) (by exact e6_84)) _) rfl ?_
          refine WL_val gd0 ((o_makeFunc (vs := []) (us := [.pointer (some p6)]) argNil (argCons (by exact e2_83) argNil)) _) rfl ?_
          refine WL_call gd0 (o_call Try.call18 (argCons rfl (argCons rfl argNil)) _) rfl (h.mono ?_)
          rintro _ w146 ⟨selected147, rfl, h⟩
          refine WL_val gd0 ((o_assign (v := .int .i64 selected147) rfl) _) rfl ?_
          refine WL_nil ?_
          refine nrm ?_
          refine WC_seq ?_
          refine WC_region ?_
          obtain ⟨x148, hc149, h⟩ := h
          refine WL_val gd0 (o_load Try.isAgg24 (by exact e2_83) hc149) rfl ?_
          obtain ⟨p150, q151, h⟩ := h
          refine WL_val gd0 ((o_nilCheck (by exact (congrArg Value.pointer q151))) _) rfl ?_
          refine WL_val gd0 ((o_fieldAddr0 Try.underlying50 rfl Try.sizeOf48 rfl rfl rfl) _) rfl ?_
          obtain ⟨x_a152, x_n153, x_c154, hc155, h⟩ := h
          refine WL_val gd0 (o_load Try.isAgg48 rfl hc155) rfl ?_
          refine WL_val gd0 ((o_move (v := .int .i64 selected147) rfl) _) rfl ?_
          obtain ⟨p158, q159, h⟩ := h
          obtain ⟨l156, u157, h⟩ := h
          refine WL_val gd0 ((o_indexAddr Try.underlying48 Try.sizeOf52 (by exact (congrArg (fun z => Value.slice z x_n153 x_c154) q159)) rfl l156 u157) _) rfl ?_
          refine WL_val gd0 ((o_fieldAddr 3 Try.underlying52 rfl Try.sizeOf3 rfl rfl rfl) _) rfl ?_
          obtain ⟨x160, hc161, h⟩ := h
          refine WL_val gd0 (o_load Try.isAgg3 rfl hc161) rfl ?_
          refine WL_val gd0 ((o_move (v := .int .i64 total86) (by exact e11_85)) _) rfl ?_
          refine WL_val gd0 ((o_sub rfl rfl) _) rfl ?_
          obtain ⟨l162, u163, h⟩ := h
          refine WL_val gd0 ((o_indexAddr Try.underlying48 Try.sizeOf52 (by exact (congrArg (fun z => Value.slice z x_n153 x_c154) q159)) rfl l162 u163) _) rfl ?_
          refine WL_val gd0 ((o_fieldAddr 3 Try.underlying52 rfl Try.sizeOf3 rfl rfl rfl) _) rfl ?_
          obtain ⟨c165, h⟩ := h
          refine WL_act gd0 (o_store (v := .int .i64 (IntKind.i64.wrap (x160 - total86))) Try.sizeOf3 rfl rfl rfl c165) ?_
          generalize hw164 : World.setCell w146 ((p158.add (selected147.toNat * 5)).add 3) (.int .i64 (IntKind.i64.wrap (x160 - total86))) = w164 at h ⊢
          try dsimp only at h
          refine WL_nil ?_
          refine nrm ?_
          refine WC_seq ?_
          refine WC_region ?_
          obtain ⟨x166, hc167, h⟩ := h
          refine WL_val gd0 (o_load Try.isAgg24 (by exact e2_83) hc167) rfl ?_
          obtain ⟨p168, q169, h⟩ := h
          refine WL_val gd0 ((o_nilCheck (by exact (congrArg Value.pointer q169))) _) rfl ?_
          refine WL_val gd0 ((o_fieldAddr0 Try.underlying50 rfl Try.sizeOf48 rfl rfl rfl) _) rfl ?_
          obtain ⟨x_a170, x_n171, x_c172, hc173, h⟩ := h
          refine WL_val gd0 (o_load Try.isAgg48 rfl hc173) rfl ?_
          refine WL_val gd0 ((o_move (v := .int .i64 selected147) rfl) _) rfl ?_
          obtain ⟨p176, q177, h⟩ := h
          obtain ⟨l174, u175, h⟩ := h
          refine WL_val gd0 ((o_indexAddr Try.underlying48 Try.sizeOf52 (by exact (congrArg (fun z => Value.slice z x_n171 x_c172) q177)) rfl l174 u175) _) rfl ?_
          refine WL_val gd0 ((o_fieldAddr 4 Try.underlying52 rfl Try.sizeOf3 rfl rfl rfl) _) rfl ?_
          obtain ⟨x178, hc179, h⟩ := h
          refine WL_val gd0 (o_load Try.isAgg3 rfl hc179) rfl ?_
          refine WL_val gd0 ((o_add rfl rfl) _) rfl ?_
          obtain ⟨l180, u181, h⟩ := h
          refine WL_val gd0 ((o_indexAddr Try.underlying48 Try.sizeOf52 (by exact (congrArg (fun z => Value.slice z x_n171 x_c172) q177)) rfl l180 u181) _) rfl ?_
          refine WL_val gd0 ((o_fieldAddr 4 Try.underlying52 rfl Try.sizeOf3 rfl rfl rfl) _) rfl ?_
          obtain ⟨c183, h⟩ := h
          refine WL_act gd0 (o_store (v := .int .i64 (IntKind.i64.wrap (x178 + 1))) Try.sizeOf3 rfl rfl rfl c183) ?_
          generalize hw182 : World.setCell w164 ((p176.add (selected147.toNat * 5)).add 4) (.int .i64 (IntKind.i64.wrap (x178 + 1))) = w182 at h ⊢
          try dsimp only at h
          refine WL_nil ?_
          refine nrm ?_
          refine WC_seq ?_
          refine WC_region ?_
          obtain ⟨x184, hc185, h⟩ := h
          refine WL_val gd0 (o_load Try.isAgg24 (by exact e2_83) hc185) rfl ?_
          obtain ⟨p186, q187, h⟩ := h
          refine WL_val gd0 ((o_nilCheck (by exact (congrArg Value.pointer q187))) _) rfl ?_
          refine WL_val gd0 ((o_fieldAddr0 Try.underlying50 rfl Try.sizeOf48 rfl rfl rfl) _) rfl ?_
          obtain ⟨x_a188, x_n189, x_c190, hc191, h⟩ := h
          refine WL_val gd0 (o_load Try.isAgg48 rfl hc191) rfl ?_
          refine WL_val gd0 ((o_move (v := .int .i64 selected147) rfl) _) rfl ?_
          obtain ⟨p194, q195, h⟩ := h
          obtain ⟨l192, u193, h⟩ := h
          refine WL_val gd0 ((o_indexAddr Try.underlying48 Try.sizeOf52 (by exact (congrArg (fun z => Value.slice z x_n189 x_c190) q195)) rfl l192 u193) _) rfl ?_
          refine WL_val gd0 ((o_fieldAddr0 Try.underlying52 rfl Try.sizeOf35 rfl rfl rfl) _) rfl ?_
          refine WL_val gd0 ((o_fieldAddr0 Try.underlying35 rfl Try.sizeOf3 rfl rfl rfl) _) rfl ?_
          obtain ⟨t196, hc197, h⟩ := h
          refine WL_val gd0 (o_load Try.isAgg3 rfl hc197) rfl ?_
          refine WL_val gd0 ((o_assign (v := .int .i64 t196) rfl) _) rfl ?_
          refine WL_val gd0 ((o_assign (v := .bool true) rfl) _) rfl ?_
          refine WL_nil ?_
          refine nrm ?_
          refine WC_ret ?_
          refine rtE ?_
          exact gv2 rfl rfl rfl h

/-- (*spacecraft mux.Mux).Sent -/
def F11 (m1 : Option Addr) (id2 : Int) (w3 : World) (k : Value → World → Prop) : Prop :=
  Does Try.prog 16 #[.pointer m1, .int .i64 id2] w3 (fun v w4 => ∃ (i5 : Int), v = .int .i64 i5 ∧ if i5 < 0 then
  k (.int .i64 0) w4
else
  ∃ (p7 : Addr), m1 = some p7 ∧ ∃ (x_a9 : Option Addr) (x_n10 x_c11 : Nat), w4.cell? p7 = some (.slice x_a9 x_n10 x_c11) ∧ ∃ (p15 : Addr), x_a9 = some p15 ∧ (0 : Int) ≤ i5 ∧ i5 < (x_n10 : Int) ∧ ∃ (t17 : Int), w4.cell? ((p15.add (i5.toNat * 5)).add 4) = some (.int .i64 t17) ∧ k (.int .i64 t17) w4)
set_option maxRecDepth 100000 in
set_option maxHeartbeats 2000000 in
theorem w11 (m1 : Option Addr) (id2 : Int) (w3 : World) (k : Value → World → Prop) (h : F11 m1 id2 w3 k) : Does Try.prog 11 #[.pointer m1, .int .i64 id2] w3 k := by
  refine enter 19 Try.func11 rfl rfl rfl ?_
  intro ρ hρ
  have e0 := hρ 0 _ rfl
  have e1 := hρ 1 _ rfl
  unfold F11 at h
  refine WC_seq ?_
  refine WC_region ?_
  refine WL_val gd0 ((o_assign (v := .int .i64 0) rfl) _) rfl ?_
  refine WL_nil ?_
  refine nrm ?_
  refine WC_seq ?_
  refine WC_region ?_
  refine WL_val gd0 ((o_move (v := .pointer m1) (by exact e0)) _) rfl ?_
  refine WL_val gd0 ((o_move (v := .int .i64 id2) (by exact e1)) _) rfl ?_
  refine WL_call gd0 (o_call Try.call16 (argCons rfl (argCons rfl argNil)) _) rfl (h.mono ?_)
  rintro _ w4 ⟨i5, rfl, h⟩
  refine WL_val gd0 ((o_assign (v := .int .i64 i5) rfl) _) rfl ?_
  refine WL_nil ?_
  refine nrm ?_
  refine WC_seq ?_
  refine WC_seq ?_
  refine WC_region ?_
  refine WL_val gd0 ((o_move (v := .int .i64 i5) rfl) _) rfl ?_
  refine WL_val gd0 ((o_lss rfl rfl) _) rfl ?_
  refine WL_nil ?_
  refine nrm ?_
  refine WC_cond (t := (decide (i5 < 0))) rfl (fun hb6 => ?_) (fun hb6 => ?_)
  · rw [if_pos (of_decide_eq_true hb6)] at h
    refine WC_seq ?_
    refine WC_region ?_
    refine WL_val gd0 ((o_assign (v := .int .i64 0) rfl) _) rfl ?_
    refine WL_nil ?_
    refine nrm ?_
    refine WC_ret ?_
    refine rtT ?_
    refine rtE ?_
    exact gv1 rfl rfl h
  · rw [if_neg (of_decide_eq_false hb6)] at h
    refine WC_skip ?_
    refine nrm ?_
    refine WC_seq ?_
    refine WC_region ?_
    refine WL_val gd0 ((o_move (v := .pointer m1) (by exact e0)) _) rfl ?_
    obtain ⟨p7, q8, h⟩ := h
    refine WL_val gd0 ((o_nilCheck (by exact (congrArg Value.pointer q8))) _) rfl ?_
    refine WL_val gd0 ((o_fieldAddr0 Try.underlying50 rfl Try.sizeOf48 rfl rfl rfl) _) rfl ?_
    obtain ⟨x_a9, x_n10, x_c11, hc12, h⟩ := h
    refine WL_val gd0 (o_load Try.isAgg48 rfl hc12) rfl ?_
    refine WL_val gd0 ((o_move (v := .int .i64 i5) rfl) _) rfl ?_
    obtain ⟨p15, q16, h⟩ := h
    obtain ⟨l13, u14, h⟩ := h
    refine WL_val gd0 ((o_indexAddr Try.underlying48 Try.sizeOf52 (by exact (congrArg (fun z => Value.slice z x_n10 x_c11) q16)) rfl l13 u14) _) rfl ?_
    refine WL_val gd0 ((o_fieldAddr 4 Try.underlying52 rfl Try.sizeOf3 rfl rfl rfl) _) rfl ?_
    obtain ⟨t17, hc18, h⟩ := h
    refine WL_val gd0 (o_load Try.isAgg3 rfl hc18) rfl ?_
    refine WL_val gd0 ((o_assign (v := .int .i64 t17) rfl) _) rfl ?_
    refine WL_nil ?_
    refine nrm ?_
    refine WC_ret ?_
    refine rtE ?_
    exact gv1 rfl rfl h


end Go.Proofs.Ytjjhghcaecodpaa
