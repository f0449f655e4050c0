/-
  The forms of the functions, and their walks: written by a program of this claim (gen.py) off the elaborated translation.
-/
import Derived.Test.YthcebibacphblaaProg
import Derived.Test.YthcebibacphblaaBase
import Derived.KernelRfl
namespace Go.Proofs.Ythcebibacphblaa
open Go Go.Sh Go.Proofs
set_option linter.unusedVariables false
theorem Try.mixed : Try.prog.follows .mixedOrders = true := by kernel_rfl
def F3_j3 (down_a7 : Option Addr) (down_n8 : Nat) (down_c9 : Nat) (t63 : Int) (g17 : Option Addr) (f15 : Option Addr) (n87 : Int) (w89 : World) (k : Value → World → Prop) (nx64 : Int → Int → World → Prop) : Prop :=
  Does Try.prog 8 #[.slice down_a7 down_n8 down_c9, .int .i64 t63] w89 (fun v w90 => ∃ (x91 : Bool), v = .bool x91 ∧ if (!x91) = true then
  Does Try.prog 11 #[.pointer g17] w90 (fun v w93 => ∃ (x94 : Int) (x95 x96 x97 : Bool) (x98 x99 : Int), v = .agg #[.int .i64 x94, .bool x95, .bool x96, .bool x97, .int .i64 x98, .int .i64 x99] ∧ Does Try.prog 10 #[.pointer f15, .agg #[.int .i64 x94, .bool x95, .bool x96, .bool x97, .int .i64 x98, .int .i64 x99], .int .i64 t63] w93 (fun v w100 => ∃ (x101 : Int), v = .int .i64 x101 ∧ if x101 ≠ 0 then
    k (.bool false) w100
  else
    nx64 n87 (IntKind.i64.wrap (t63 + 1)) w100))
else
  nx64 n87 (IntKind.i64.wrap (t63 + 1)) w90)
def F3_j4 (p77 : Addr) (g17 : Option Addr) (units_n2 : Nat) (n61 : Int) (units_a1 : Option Addr) (down_a7 : Option Addr) (down_n8 : Nat) (down_c9 : Nat) (t63 : Int) (f15 : Option Addr) (t112 : Bool) (w113 : World) (k : Value → World → Prop) (nx64 : Int → Int → World → Prop) : Prop :=
  if t112 = true then
  ∃ (x115 x116 : Bool) (x117 x118 x119 : Int) (x_a120 : Option Addr) (x_n121 x_c122 : Nat), Cells w113 p77 0 [.bool x115, .bool x116, .int .i64 x117, .int .i64 x118, .int .i64 x119, .slice x_a120 x_n121 x_c122] ∧ Does Try.prog 9 #[.pointer g17, .agg #[.bool x115, .bool x116, .int .i64 x117, .int .i64 x118, .int .i64 x119, .slice x_a120 x_n121 x_c122], .bool true] w113 (fun v w124 => ∃ (r_a125 : Option Addr) (r_n126 r_c127 : Nat) (r128 : Int), v = .tuple #[.slice r_a125 r_n126 r_c127, .int .i64 r128] ∧ if r128 = 1 then
    if (units_n2 : Int) ≤ n61 then
      k (.bool false) w124.drew
    else
      ∃ (s131 : ByteArray), (Conv.bytesToString (.slice r_a125 r_n126 r_c127)).run Try.prog w124.drew = .ok (.string s131) w124.drew ∧ ∃ (p135 : Addr), units_a1 = some p135 ∧ (0 : Int) ≤ n61 ∧ n61 < (units_n2 : Int) ∧ ∃ (x_a137 : Option Addr) (x_n138 x_c139 : Nat), w124.drew.cell? (p135.add n61.toNat) = some (.slice x_a137 x_n138 x_c139) ∧ ∃ (s141 : ByteArray), (Conv.bytesToString (.slice x_a137 x_n138 x_c139)).run Try.prog w124.drew = .ok (.string s141) w124.drew ∧ if (!(s131.toList == s141.toList)) = true then
        k (.bool false) w124.drew
      else
        F3_j3 down_a7 down_n8 down_c9 t63 g17 f15 (IntKind.i64.wrap (n61 + 1)) w124.drew k nx64
  else
    F3_j3 down_a7 down_n8 down_c9 t63 g17 f15 n61 w124 k nx64)
else
  F3_j3 down_a7 down_n8 down_c9 t63 g17 f15 n61 w113 k nx64
def F3_b2 (f15 : Option Addr) (up_a4 : Option Addr) (up_n5 : Nat) (up_c6 : Nat) (g17 : Option Addr) (units_n2 : Nat) (units_a1 : Option Addr) (down_a7 : Option Addr) (down_n8 : Nat) (down_c9 : Nat) (n61 : Int) (t63 : Int) (w64 : World) (k : Value → World → Prop) (nx64 : Int → Int → World → Prop) : Prop :=
  if t63 < 260 then
  Does Try.prog 7 #[.pointer f15, .int .i64 t63] w64 (fun v w67 => ∃ (r68 r69 : Bool) (r70 r71 r72 : Int) (r_a73 : Option Addr) (r_n74 r_c75 : Nat) (r76 : Bool), v = .tuple #[.agg #[.bool r68, .bool r69, .int .i64 r70, .int .i64 r71, .int .i64 r72, .slice r_a73 r_n74 r_c75], .bool r76] ∧ New w67 32 [.bool false, .bool false, .int .i64 0, .int .i64 0, .int .i64 0, .slice none 0 0] (fun p77 w78 => PutAll w78 p77 [.bool r68, .bool r69, .int .i64 r70, .int .i64 r71, .int .i64 r72, .slice r_a73 r_n74 r_c75] (fun w79 => if r76 = true then
    Does Try.prog 8 #[.slice up_a4 up_n5 up_c6, .int .i64 t63] w79 (fun v w145 => ∃ (x146 : Bool), v = .bool x146 ∧ F3_j4 p77 g17 units_n2 n61 units_a1 down_a7 down_n8 down_c9 t63 f15 (!x146) w145 k nx64)
  else
    F3_j4 p77 g17 units_n2 n61 units_a1 down_a7 down_n8 down_c9 t63 f15 false w79 k nx64)))
else
  if n61 = (units_n2 : Int) then
    Does Try.prog 12 #[.pointer f15] w64 (fun v w148 => ∃ (x149 : Int), v = .int .i64 x149 ∧ if x149 = 0 then
      Does Try.prog 13 #[.pointer f15] w148 (fun v w151 => ∃ (x152 : Int), v = .int .i64 x152 ∧ if x152 = n61 then
        Does Try.prog 14 #[.pointer f15] w151 (fun v w154 => ∃ (x155 : Int), v = .int .i64 x155 ∧ if x155 = 1 then
          New w154 5 [.int .u8 1] (fun p157 w158 => Does Try.prog 6 #[.pointer f15, .slice (some p157) 1 1] w158 (fun v w159 => ∃ (x160 : Int), v = .int .i64 x160 ∧ k (.bool (decide (x160 = 0))) w159))
        else
          k (.bool false) w154)
      else
        k (.bool false) w151)
    else
      k (.bool false) w148)
  else
    k (.bool false) w64
def F3_b1 (units_n2 : Nat) (units_a1 : Option Addr) (f15 : Option Addr) (up_a4 : Option Addr) (up_n5 : Nat) (up_c6 : Nat) (g17 : Option Addr) (down_a7 : Option Addr) (down_n8 : Nat) (down_c9 : Nat) (i26 : Int) (w27 : World) (k : Value → World → Prop) (nx27 : Int → World → Prop) : Prop :=
  if i26 < (units_n2 : Int) then
  ∃ (p32 : Addr), units_a1 = some p32 ∧ (0 : Int) ≤ i26 ∧ i26 < (units_n2 : Int) ∧ ∃ (x_a34 : Option Addr) (x_n35 x_c36 : Nat), w27.cell? (p32.add i26.toNat) = some (.slice x_a34 x_n35 x_c36) ∧ if (x_n35 : Int) < 1 then
    k (.bool true) w27
  else
    (0 : Int) ≤ i26 ∧ i26 < (units_n2 : Int) ∧ ∃ (x_a41 : Option Addr) (x_n42 x_c43 : Nat), w27.cell? (p32.add i26.toNat) = some (.slice x_a41 x_n42 x_c43) ∧ if 200 < (x_n42 : Int) then
      k (.bool true) w27
    else
      (0 : Int) ≤ i26 ∧ i26 < (units_n2 : Int) ∧ ∃ (x_a48 : Option Addr) (x_n49 x_c50 : Nat), w27.cell? (p32.add i26.toNat) = some (.slice x_a48 x_n49 x_c50) ∧ Does Try.prog 6 #[.pointer f15, .slice x_a48 x_n49 x_c50] w27 (fun v w52 => ∃ (x53 : Int), v = .int .i64 x53 ∧ if x53 ≠ 0 then
        k (.bool false) w52
      else
        nx27 (IntKind.i64.wrap (i26 + 1)) w52)
else
  LoopP (fun (s : Int × Int) w' nx' => F3_b2 f15 up_a4 up_n5 up_c6 g17 units_n2 units_a1 down_a7 down_n8 down_c9 (s.1) (s.2) w' k (fun x0 x1 w => nx' (x0, x1) w)) (0, 0) w27
/-- spacecraft spacecrafttop.TopSequence -/
def F3 (units_a1 : Option Addr) (units_n2 : Nat) (units_c3 : Nat) (up_a4 : Option Addr) (up_n5 : Nat) (up_c6 : Nat) (down_a7 : Option Addr) (down_n8 : Nat) (down_c9 : Nat) (w10 : World) (k : Value → World → Prop) : Prop :=
  if 20 < (units_n2 : Int) then
  k (.bool true) w10
else
  if 60 < (up_n5 : Int) then
    k (.bool true) w10
  else
    if 60 < (down_n8 : Int) then
      k (.bool true) w10
    else
      Does Try.prog 4 #[.int .i64 5, .int .i64 1, .int .i64 8, .int .i64 3, .int .i64 255] w10 (fun v w14 => ∃ (f15 : Option Addr), v = .pointer f15 ∧ Does Try.prog 5 #[.int .i64 5, .int .i64 1, .int .i64 8] w14 (fun v w16 => ∃ (g17 : Option Addr), v = .pointer g17 ∧ if (f15).isNone = true then
        k (.bool false) w16
      else
        if (g17).isNone = true then
          k (.bool false) w16
        else
          LoopP (fun (s : Int) w' nx' => F3_b1 units_n2 units_a1 f15 up_a4 up_n5 up_c6 g17 down_a7 down_n8 down_c9 s w' k (fun x0 w => nx' x0 w)) 0 w16))
set_option maxRecDepth 100000 in
set_option maxHeartbeats 2000000 in
theorem w3 (units_a1 : Option Addr) (units_n2 : Nat) (units_c3 : Nat) (up_a4 : Option Addr) (up_n5 : Nat) (up_c6 : Nat) (down_a7 : Option Addr) (down_n8 : Nat) (down_c9 : Nat) (w10 : World) (k : Value → World → Prop) (h : F3 units_a1 units_n2 units_c3 up_a4 up_n5 up_c6 down_a7 down_n8 down_c9 w10 k) : Does Try.prog 3 #[.slice units_a1 units_n2 units_c3, .slice up_a4 up_n5 up_c6, .slice down_a7 down_n8 down_c9] w10 k := by
  refine enter 143 Try.func3 rfl rfl rfl ?_
  intro ρ hρ
  have e0 := hρ 0 _ rfl
  have e1 := hρ 1 _ rfl
  have e2 := hρ 2 _ rfl
  unfold F3 at h
  refine WC_seq ?_
  refine WC_region ?_
  refine WL_val gd0 ((o_assign (v := .bool false) rfl) _) rfl ?_
  refine WL_nil ?_
  refine nrm ?_
  refine WC_seq ?_
  refine WC_seq ?_
  refine WC_region ?_
  refine WL_val gd0 ((o_move (v := .slice units_a1 units_n2 units_c3) (by exact e0)) _) rfl ?_
  refine WL_val gd0 ((o_len Try.underlying22 rfl) _) rfl ?_
  refine WL_val gd0 ((o_gtr rfl rfl) _) rfl ?_
  refine WL_val gd0 ((o_move (v := .bool (decide (20 < (units_n2 : Int)))) rfl) _) rfl ?_
  refine bsplit (decide (20 < (units_n2 : Int))) (fun hb11 => ?_) (fun hb11 => ?_)
  · rw [if_pos (of_decide_eq_true hb11)] at h
    refine WL_skip (gdN (b := (decide (20 < (units_n2 : Int)))) 19 rfl rfl hb11) rfl ?_
    refine WL_skip (gdN (b := (decide (20 < (units_n2 : Int)))) 19 rfl rfl hb11) rfl ?_
    refine WL_skip (gdN (b := (decide (20 < (units_n2 : Int)))) 19 rfl rfl hb11) rfl ?_
    refine WL_val gd0 ((o_pickT (v := .bool true) rfl hb11 rfl) _) rfl ?_
    refine WL_val gd0 ((o_move (v := .bool true) rfl) _) rfl ?_
    refine WL_skip (gdN (b := true) 24 rfl rfl rfl) rfl ?_
    refine WL_skip (gdN (b := true) 24 rfl rfl rfl) rfl ?_
    refine WL_skip (gdN (b := true) 24 rfl rfl rfl) rfl ?_
    refine WL_val gd0 ((o_pickT (v := .bool true) rfl rfl rfl) _) rfl ?_
    refine WL_nil ?_
    refine nrm ?_
    refine WC_cond (t := true) rfl (fun _ => ?_) (fun hx => by rw [(rfl : true = true)] at hx; cases hx)
    refine WC_seq ?_
    refine WC_region ?_
    refine WL_val gd0 ((o_assign (v := .bool true) rfl) _) rfl ?_
    refine WL_nil ?_
    refine nrm ?_
    refine WC_ret ?_
    refine rtT ?_
    refine rtE ?_
    exact gv1 rfl rfl h
  · rw [if_neg (of_decide_eq_false hb11)] at h
    refine WL_val (gdY (b := (decide (20 < (units_n2 : Int)))) 19 rfl rfl hb11) ((o_move (v := .slice up_a4 up_n5 up_c6) (by exact e1)) _) rfl ?_
    refine WL_val (gdY (b := (decide (20 < (units_n2 : Int)))) 19 rfl rfl hb11) ((o_len Try.underlying23 rfl) _) rfl ?_
    refine WL_val (gdY (b := (decide (20 < (units_n2 : Int)))) 19 rfl rfl hb11) ((o_gtr rfl rfl) _) rfl ?_
    refine WL_val gd0 ((o_pickF (v := .bool (decide (60 < (up_n5 : Int)))) rfl hb11 rfl) _) rfl ?_
    refine WL_val gd0 ((o_move (v := .bool (decide (60 < (up_n5 : Int)))) rfl) _) rfl ?_
    refine bsplit (decide (60 < (up_n5 : Int))) (fun hb12 => ?_) (fun hb12 => ?_)
    · rw [if_pos (of_decide_eq_true hb12)] at h
      refine WL_skip (gdN (b := (decide (60 < (up_n5 : Int)))) 24 rfl rfl hb12) rfl ?_
      refine WL_skip (gdN (b := (decide (60 < (up_n5 : Int)))) 24 rfl rfl hb12) rfl ?_
      refine WL_skip (gdN (b := (decide (60 < (up_n5 : Int)))) 24 rfl rfl hb12) rfl ?_
      refine WL_val gd0 ((o_pickT (v := .bool true) rfl hb12 rfl) _) rfl ?_
      refine WL_nil ?_
      refine nrm ?_
      refine WC_cond (t := true) rfl (fun _ => ?_) (fun hx => by rw [(rfl : true = true)] at hx; cases hx)
      refine WC_seq ?_
      refine WC_region ?_
      refine WL_val gd0 ((o_assign (v := .bool true) rfl) _) rfl ?_
      refine WL_nil ?_
      refine nrm ?_
      refine WC_ret ?_
      refine rtT ?_
      refine rtE ?_
      exact gv1 rfl rfl h
    · rw [if_neg (of_decide_eq_false hb12)] at h
      refine WL_val (gdY (b := (decide (60 < (up_n5 : Int)))) 24 rfl rfl hb12) ((o_move (v := .slice down_a7 down_n8 down_c9) (by exact e2)) _) rfl ?_
      refine WL_val (gdY (b := (decide (60 < (up_n5 : Int)))) 24 rfl rfl hb12) ((o_len Try.underlying23 rfl) _) rfl ?_
      refine WL_val (gdY (b := (decide (60 < (up_n5 : Int)))) 24 rfl rfl hb12) ((o_gtr rfl rfl) _) rfl ?_
      refine WL_val gd0 ((o_pickF (v := .bool (decide (60 < (down_n8 : Int)))) rfl hb12 rfl) _) rfl ?_
      refine WL_nil ?_
      refine nrm ?_
      refine WC_cond (t := (decide (60 < (down_n8 : Int)))) rfl (fun hb13 => ?_) (fun hb13 => ?_)
      · rw [if_pos (of_decide_eq_true hb13)] at h
        refine WC_seq ?_
        refine WC_region ?_
        refine WL_val gd0 ((o_assign (v := .bool true) rfl) _) rfl ?_
        refine WL_nil ?_
        refine nrm ?_
        refine WC_ret ?_
        refine rtT ?_
        refine rtE ?_
        exact gv1 rfl rfl h
      · rw [if_neg (of_decide_eq_false hb13)] at h
        refine WC_skip ?_
        refine nrm ?_
        refine WC_seq ?_
        refine WC_region ?_
        refine WL_call gd0 (o_call Try.call4 (argCons rfl (argCons rfl (argCons rfl (argCons rfl (argCons rfl argNil))))) _) rfl (h.mono ?_)
        rintro _ w14 ⟨f15, rfl, h⟩
        refine WL_val gd0 ((o_assign (v := .pointer f15) rfl) _) rfl ?_
        refine WL_nil ?_
        refine nrm ?_
        refine WC_seq ?_
        refine WC_region ?_
        refine WL_call gd0 (o_call Try.call5 (argCons rfl (argCons rfl (argCons rfl argNil))) _) rfl (h.mono ?_)
        rintro _ w16 ⟨g17, rfl, h⟩
        refine WL_val gd0 ((o_assign (v := .pointer g17) rfl) _) rfl ?_
        refine WL_nil ?_
        refine nrm ?_
        refine WC_seq ?_
        refine WC_seq ?_
        refine WC_region ?_
        refine WL_val gd0 ((o_move (v := .pointer f15) rfl) _) rfl ?_
        refine WL_val gd0 ((o_eqlPtrNil Try.underlying24 rfl rfl) _) rfl ?_
        refine WL_val gd0 ((o_move (v := .bool ((f15).isNone)) rfl) _) rfl ?_
        refine bsplit ((f15).isNone) (fun hb18 => ?_) (fun hb18 => ?_)
        · rw [if_pos hb18] at h
          refine WL_skip (gdN (b := ((f15).isNone)) 33 rfl rfl hb18) rfl ?_
          refine WL_skip (gdN (b := ((f15).isNone)) 33 rfl rfl hb18) rfl ?_
          refine WL_val gd0 ((o_pickT (v := .bool true) rfl hb18 rfl) _) rfl ?_
          refine WL_nil ?_
          refine nrm ?_
          refine WC_cond (t := true) rfl (fun _ => ?_) (fun hx => by rw [(rfl : true = true)] at hx; cases hx)
          refine WC_seq ?_
          refine WC_region ?_
          refine WL_val gd0 ((o_assign (v := .bool false) rfl) _) rfl ?_
          refine WL_nil ?_
          refine nrm ?_
          refine WC_ret ?_
          refine rtT ?_
          refine rtE ?_
          exact gv1 rfl rfl h
        · rw [if_neg (neT hb18)] at h
          refine WL_val (gdY (b := ((f15).isNone)) 33 rfl rfl hb18) ((o_move (v := .pointer g17) rfl) _) rfl ?_
          refine WL_val (gdY (b := ((f15).isNone)) 33 rfl rfl hb18) ((o_eqlPtrNil Try.underlying26 rfl rfl) _) rfl ?_
          refine WL_val gd0 ((o_pickF (v := .bool ((g17).isNone)) rfl hb18 rfl) _) rfl ?_
          refine WL_nil ?_
          refine nrm ?_
          refine WC_cond (t := ((g17).isNone)) rfl (fun hb19 => ?_) (fun hb19 => ?_)
          · rw [if_pos hb19] at h
            refine WC_seq ?_
            refine WC_region ?_
            refine WL_val gd0 ((o_assign (v := .bool false) rfl) _) rfl ?_
            refine WL_nil ?_
            refine nrm ?_
            refine WC_ret ?_
            refine rtT ?_
            refine rtE ?_
            exact gv1 rfl rfl h
          · rw [if_neg (neT hb19)] at h
            refine WC_skip ?_
            refine nrm ?_
            refine WC_seq ?_
            refine WC_seq ?_
            refine WC_region ?_
            refine WL_val gd0 ((o_assign (v := .int .i64 0) rfl) _) rfl ?_
            refine WL_nil ?_
            refine nrm ?_
            refine WC_block ?_
            obtain ⟨J27, ⟨n27, h0⟩, hr27⟩ := h
            refine WC_loop (fun n ρ w' => ∃ (i26 : Int), ρ 9 = .int .i64 i26 ∧ ρ 0 = .slice units_a1 units_n2 units_c3 ∧ ρ 1 = .slice up_a4 up_n5 up_c6 ∧ ρ 2 = .slice down_a7 down_n8 down_c9 ∧ ρ 7 = .pointer f15 ∧ ρ 8 = .pointer g17 ∧ J27 n i26 w') ⟨n27, _, rfl, e0, e1, e2, rfl, rfl, h0⟩ ?_
            rintro n27 ρ w27 ⟨i26, e9_25, e0_20, e1_21, e2_22, e7_23, e8_24, h⟩
            have h : F3_b1 units_n2 units_a1 f15 up_a4 up_n5 up_c6 g17 down_a7 down_n8 down_c9 i26 w27 k (fun x0 w => ∃ m, m < n27 ∧ J27 m x0 w) := hr27 n27 i26 w27 h
            unfold F3_b1 at h
            refine WC_seq ?_
            refine WC_seq ?_
            refine WC_region ?_
            refine WL_val gd0 ((o_move (v := .int .i64 i26) (by exact e9_25)) _) rfl ?_
            refine WL_val gd0 ((o_move (v := .slice units_a1 units_n2 units_c3) (by exact e0_20)) _) rfl ?_
            refine WL_val gd0 ((o_len Try.underlying22 rfl) _) rfl ?_
            refine WL_val gd0 ((o_lss rfl rfl) _) rfl ?_
            refine WL_nil ?_
            refine nrm ?_
            refine WC_cond (t := (decide (i26 < (units_n2 : Int)))) rfl (fun hb29 => ?_) (fun hb29 => ?_)
            · rw [if_pos (of_decide_eq_true hb29)] at h
              refine WC_skip ?_
              refine nrm ?_
              refine WC_seq ?_
              refine WC_block ?_
              refine WC_seq ?_
              refine WC_seq ?_
              refine WC_region ?_
              refine WL_val gd0 ((o_move (v := .slice units_a1 units_n2 units_c3) (by exact e0_20)) _) rfl ?_
              refine WL_val gd0 ((o_move (v := .int .i64 i26) (by exact e9_25)) _) rfl ?_
              obtain ⟨p32, q33, h⟩ := h
              obtain ⟨l30, u31, h⟩ := h
              refine WL_val gd0 ((o_indexAddr1 Try.underlying22 Try.sizeOf28 (by exact (congrArg (fun z => Value.slice z units_n2 units_c3) q33)) rfl l30 u31) _) rfl ?_
              obtain ⟨x_a34, x_n35, x_c36, hc37, h⟩ := h
              refine WL_val gd0 (o_load Try.isAgg28 rfl hc37) rfl ?_
              refine WL_val gd0 ((o_len Try.underlying28 rfl) _) rfl ?_
              refine WL_val gd0 ((o_lss rfl rfl) _) rfl ?_
              refine WL_val gd0 ((o_move (v := .bool (decide ((x_n35 : Int) < 1))) rfl) _) rfl ?_
              refine bsplit (decide ((x_n35 : Int) < 1)) (fun hb38 => ?_) (fun hb38 => ?_)
              · rw [if_pos (of_decide_eq_true hb38)] at h
                refine WL_skip (gdN (b := (decide ((x_n35 : Int) < 1))) 49 rfl rfl hb38) rfl ?_
                refine WL_skip (gdN (b := (decide ((x_n35 : Int) < 1))) 49 rfl rfl hb38) rfl ?_
                refine WL_skip (gdN (b := (decide ((x_n35 : Int) < 1))) 49 rfl rfl hb38) rfl ?_
                refine WL_skip (gdN (b := (decide ((x_n35 : Int) < 1))) 49 rfl rfl hb38) rfl ?_
                refine WL_skip (gdN (b := (decide ((x_n35 : Int) < 1))) 49 rfl rfl hb38) rfl ?_
                refine WL_skip (gdN (b := (decide ((x_n35 : Int) < 1))) 49 rfl rfl hb38) rfl ?_
                refine WL_val gd0 ((o_pickT (v := .bool true) rfl hb38 rfl) _) rfl ?_
                refine WL_nil ?_
                refine nrm ?_
                refine WC_cond (t := true) rfl (fun _ => ?_) (fun hx => by rw [(rfl : true = true)] at hx; cases hx)
                refine WC_seq ?_
                refine WC_region ?_
                refine WL_val gd0 ((o_assign (v := .bool true) rfl) _) rfl ?_
                refine WL_nil ?_
                refine nrm ?_
                refine WC_ret ?_
                refine rtT ?_
                refine rtB ?_
                refine rtT ?_
                refine rtT ?_
                refine rtB ?_
                refine rtT ?_
                refine rtE ?_
                exact gv1 rfl rfl h
              · rw [if_neg (of_decide_eq_false hb38)] at h
                refine WL_val (gdY (b := (decide ((x_n35 : Int) < 1))) 49 rfl rfl hb38) ((o_move (v := .slice units_a1 units_n2 units_c3) (by exact e0_20)) _) rfl ?_
                refine WL_val (gdY (b := (decide ((x_n35 : Int) < 1))) 49 rfl rfl hb38) ((o_move (v := .int .i64 i26) (by exact e9_25)) _) rfl ?_
                obtain ⟨l39, u40, h⟩ := h
                refine WL_val (gdY (b := (decide ((x_n35 : Int) < 1))) 49 rfl rfl hb38) ((o_indexAddr1 Try.underlying22 Try.sizeOf28 (by exact (congrArg (fun z => Value.slice z units_n2 units_c3) q33)) rfl l39 u40) _) rfl ?_
                obtain ⟨x_a41, x_n42, x_c43, hc44, h⟩ := h
                refine WL_val (gdY (b := (decide ((x_n35 : Int) < 1))) 49 rfl rfl hb38) (o_load Try.isAgg28 rfl hc44) rfl ?_
                refine WL_val (gdY (b := (decide ((x_n35 : Int) < 1))) 49 rfl rfl hb38) ((o_len Try.underlying28 rfl) _) rfl ?_
                refine WL_val (gdY (b := (decide ((x_n35 : Int) < 1))) 49 rfl rfl hb38) ((o_gtr rfl rfl) _) rfl ?_
                refine WL_val gd0 ((o_pickF (v := .bool (decide (200 < (x_n42 : Int)))) rfl hb38 rfl) _) rfl ?_
                refine WL_nil ?_
                refine nrm ?_
                refine WC_cond (t := (decide (200 < (x_n42 : Int)))) rfl (fun hb45 => ?_) (fun hb45 => ?_)
                · rw [if_pos (of_decide_eq_true hb45)] at h
                  refine WC_seq ?_
                  refine WC_region ?_
                  refine WL_val gd0 ((o_assign (v := .bool true) rfl) _) rfl ?_
                  refine WL_nil ?_
                  refine nrm ?_
                  refine WC_ret ?_
                  refine rtT ?_
                  refine rtB ?_
                  refine rtT ?_
                  refine rtT ?_
                  refine rtB ?_
                  refine rtT ?_
                  refine rtE ?_
                  exact gv1 rfl rfl h
                · rw [if_neg (of_decide_eq_false hb45)] at h
                  refine WC_skip ?_
                  refine nrm ?_
                  refine WC_seq ?_
                  refine WC_region ?_
                  refine WL_val gd0 ((o_move (v := .pointer f15) (by exact e7_23)) _) rfl ?_
                  refine WL_val gd0 ((o_move (v := .slice units_a1 units_n2 units_c3) (by exact e0_20)) _) rfl ?_
                  refine WL_val gd0 ((o_move (v := .int .i64 i26) (by exact e9_25)) _) rfl ?_
                  obtain ⟨l46, u47, h⟩ := h
                  refine WL_val gd0 ((o_indexAddr1 Try.underlying22 Try.sizeOf28 (by exact (congrArg (fun z => Value.slice z units_n2 units_c3) q33)) rfl l46 u47) _) rfl ?_
                  obtain ⟨x_a48, x_n49, x_c50, hc51, h⟩ := h
                  refine WL_val gd0 (o_load Try.isAgg28 rfl hc51) rfl ?_
                  refine WL_call gd0 (o_call Try.call6 (argCons rfl (argCons rfl argNil)) _) rfl (h.mono ?_)
                  rintro _ w52 ⟨x53, rfl, h⟩
                  refine WL_val gd0 ((o_neq rfl rfl) _) rfl ?_
                  refine WL_nil ?_
                  refine nrm ?_
                  refine WC_cond (t := (decide (x53 ≠ 0))) rfl (fun hb54 => ?_) (fun hb54 => ?_)
                  · rw [if_pos (of_decide_eq_true hb54)] at h
                    refine WC_seq ?_
                    refine WC_region ?_
                    refine WL_val gd0 ((o_assign (v := .bool false) rfl) _) rfl ?_
                    refine WL_nil ?_
                    refine nrm ?_
                    refine WC_ret ?_
                    refine rtB ?_
                    refine rtT ?_
                    refine rtT ?_
                    refine rtB ?_
                    refine rtT ?_
                    refine rtE ?_
                    exact gv1 rfl rfl h
                  · rw [if_neg (of_decide_eq_false hb54)] at h
                    refine WC_skip ?_
                    refine nrmB ?_
                    refine nrm ?_
                    refine WC_region ?_
                    refine WL_val gd0 ((o_move (v := .int .i64 i26) (by exact e9_25)) _) rfl ?_
                    refine WL_val gd0 ((o_add rfl rfl) _) rfl ?_
                    refine WL_val gd0 ((o_assign (v := .int .i64 (IntKind.i64.wrap (i26 + 1))) rfl) _) rfl ?_
                    refine WL_nil ?_
                    refine nrm ?_
                    obtain ⟨m28, hm28, h⟩ := h
                    exact ⟨m28, hm28, _, rfl, e0_20, e1_21, e2_22, e7_23, e8_24, h⟩
            · rw [if_neg (of_decide_eq_false hb29)] at h
              refine WC_exit ?_
              refine exT ?_
              refine exT ?_
              refine exB ?_
              refine nrm ?_
              refine WC_seq ?_
              refine WC_region ?_
              refine WL_val gd0 ((o_assign (v := .int .i64 0) rfl) _) rfl ?_
              refine WL_nil ?_
              refine nrm ?_
              refine WC_seq ?_
              refine WC_seq ?_
              refine WC_region ?_
              refine WL_val gd0 ((o_assign (v := .int .i64 0) rfl) _) rfl ?_
              refine WL_nil ?_
              refine nrm ?_
              refine WC_block ?_
              obtain ⟨J64, ⟨n64, h0⟩, hr64⟩ := h
              refine WC_loop (fun n ρ w' => ∃ (n61 t63 : Int), ρ 10 = .int .i64 n61 ∧ ρ 11 = .int .i64 t63 ∧ ρ 0 = .slice units_a1 units_n2 units_c3 ∧ ρ 1 = .slice up_a4 up_n5 up_c6 ∧ ρ 2 = .slice down_a7 down_n8 down_c9 ∧ ρ 7 = .pointer f15 ∧ ρ 8 = .pointer g17 ∧ J64 n (n61, t63) w') ⟨n64, _, _, rfl, rfl, e0_20, e1_21, e2_22, e7_23, e8_24, h0⟩ ?_
              rintro n64 ρ w64 ⟨n61, t63, e10_60, e11_62, e0_55, e1_56, e2_57, e7_58, e8_59, h⟩
              have h : F3_b2 f15 up_a4 up_n5 up_c6 g17 units_n2 units_a1 down_a7 down_n8 down_c9 n61 t63 w64 k (fun x0 x1 w => ∃ m, m < n64 ∧ J64 m (x0, x1) w) := hr64 n64 (n61, t63) w64 h
              unfold F3_b2 at h
              refine WC_seq ?_
              refine WC_seq ?_
              refine WC_region ?_
              refine WL_val gd0 ((o_move (v := .int .i64 t63) (by exact e11_62)) _) rfl ?_
              refine WL_val gd0 ((o_lss rfl rfl) _) rfl ?_
              refine WL_nil ?_
              refine nrm ?_
              refine WC_cond (t := (decide (t63 < 260))) rfl (fun hb66 => ?_) (fun hb66 => ?_)
              · rw [if_pos (of_decide_eq_true hb66)] at h
                refine WC_skip ?_
                refine nrm ?_
                refine WC_seq ?_
                refine WC_block ?_
                refine WC_seq ?_
                refine WC_region ?_
                refine WL_val gd0 ((o_move (v := .pointer f15) (by exact e7_58)) _) rfl ?_
                refine WL_val gd0 ((o_move (v := .int .i64 t63) (by exact e11_62)) _) rfl ?_
                refine WL_call gd0 (o_call Try.call7 (argCons rfl (argCons rfl argNil)) _) rfl (h.mono ?_)
                rintro _ w67 ⟨r68, r69, r70, r71, r72, r_a73, r_n74, r_c75, r76, rfl, h⟩
                refine WL_val gd0 ((o_move (v := .tuple #[.agg #[.bool r68, .bool r69, .int .i64 r70, .int .i64 r71, .int .i64 r72, .slice r_a73 r_n74 r_c75], .bool r76]) rfl) _) rfl ?_
                refine WL_val gd0 ((o_extract (vs := [.agg #[.bool r68, .bool r69, .int .i64 r70, .int .i64 r71, .int .i64 r72, .slice r_a73 r_n74 r_c75], .bool r76]) (r := .agg #[.bool r68, .bool r69, .int .i64 r70, .int .i64 r71, .int .i64 r72, .slice r_a73 r_n74 r_c75]) rfl rfl) _) rfl ?_
                refine WL_val gd0 ((o_extract (vs := [.agg #[.bool r68, .bool r69, .int .i64 r70, .int .i64 r71, .int .i64 r72, .slice r_a73 r_n74 r_c75], .bool r76]) (r := .bool r76) rfl rfl) _) rfl ?_
                have h := New.out h
                refine WL_val gd0 (o_alloc (z := .agg #[.bool false, .bool false, .int .i64 0, .int .i64 0, .int .i64 0, .slice none 0 0]) (cs := [.bool false, .bool false, .int .i64 0, .int .i64 0, .int .i64 0, .slice none 0 0]) Try.zeroValue32 rfl) rfl ?_
                generalize hp77 : fresh w67 = p77 at h ⊢
                generalize hw78 : push w67 32 [.bool false, .bool false, .int .i64 0, .int .i64 0, .int .i64 0, .slice none 0 0] = w78 at h ⊢
                try dsimp only at h
                obtain ⟨c80, h⟩ := h
                refine WL_act gd0 (o_storeAgg (vs := [.bool r68, .bool r69, .int .i64 r70, .int .i64 r71, .int .i64 r72, .slice r_a73 r_n74 r_c75]) Try.sizeOf32 rfl rfl rfl c80) ?_
                generalize hw79 : setAll w78 p77 0 [.bool r68, .bool r69, .int .i64 r70, .int .i64 r71, .int .i64 r72, .slice r_a73 r_n74 r_c75] = w79 at h ⊢
                try dsimp only at h
                refine WL_val gd0 ((o_assign (v := .bool r76) rfl) _) rfl ?_
                refine WL_nil ?_
                refine nrm ?_
                refine WC_cut (fun ρ w' => ∃ (n87 : Int), ρ 10 = .int .i64 n87 ∧ ρ 0 = .slice units_a1 units_n2 units_c3 ∧ ρ 1 = .slice up_a4 up_n5 up_c6 ∧ ρ 2 = .slice down_a7 down_n8 down_c9 ∧ ρ 7 = .pointer f15 ∧ ρ 8 = .pointer g17 ∧ ρ 11 = .int .i64 t63 ∧ F3_j3 down_a7 down_n8 down_c9 t63 g17 f15 n87 w' k (fun x0 x1 w => ∃ m, m < n64 ∧ J64 m (x0, x1) w)) ?_ ?_
                · refine WC_cut (fun ρ w' => ∃ (t112 : Bool), ρ 80 = .bool t112 ∧ ρ 0 = .slice units_a1 units_n2 units_c3 ∧ ρ 1 = .slice up_a4 up_n5 up_c6 ∧ ρ 2 = .slice down_a7 down_n8 down_c9 ∧ ρ 7 = .pointer f15 ∧ ρ 8 = .pointer g17 ∧ ρ 10 = .int .i64 n61 ∧ ρ 11 = .int .i64 t63 ∧ ρ 12 = .pointer (some p77) ∧ F3_j4 p77 g17 units_n2 n61 units_a1 down_a7 down_n8 down_c9 t63 f15 t112 w' k (fun x0 x1 w => ∃ m, m < n64 ∧ J64 m (x0, x1) w)) ?_ ?_
                  · refine WC_region ?_
                    refine WL_val gd0 ((o_move (v := .bool r76) rfl) _) rfl ?_
                    refine WL_val gd0 ((o_move (v := .bool r76) rfl) _) rfl ?_
                    refine bsplit r76 (fun hb144 => ?_) (fun hb144 => ?_)
                    · rw [if_pos hb144] at h
                      refine WL_val (gdY (b := r76) 75 rfl rfl hb144) ((o_move (v := .slice up_a4 up_n5 up_c6) (by exact e1_56)) _) rfl ?_
                      refine WL_val (gdY (b := r76) 75 rfl rfl hb144) ((o_move (v := .int .i64 t63) (by exact e11_62)) _) rfl ?_
                      refine WL_call (gdY (b := r76) 75 rfl rfl hb144) (o_call Try.call8 (argCons rfl (argCons rfl argNil)) _) rfl (h.mono ?_)
                      rintro _ w145 ⟨x146, rfl, h⟩
                      refine WL_val (gdY (b := r76) 75 rfl rfl hb144) ((o_not rfl) _) rfl ?_
                      refine WL_val gd0 ((o_pickT (v := .bool (!x146)) rfl hb144 rfl) _) rfl ?_
                      refine WL_nil ?_
                      refine nrm ?_
                      exact ⟨_, rfl, e0_55, e1_56, e2_57, e7_58, e8_59, e10_60, e11_62, rfl, h⟩
                    · rw [if_neg (neT hb144)] at h
                      refine WL_skip (gdN (b := r76) 75 rfl rfl hb144) rfl ?_
                      refine WL_skip (gdN (b := r76) 75 rfl rfl hb144) rfl ?_
                      refine WL_skip (gdN (b := r76) 75 rfl rfl hb144) rfl ?_
                      refine WL_skip (gdN (b := r76) 75 rfl rfl hb144) rfl ?_
                      refine WL_val gd0 ((o_pickF (v := .bool false) rfl hb144 rfl) _) rfl ?_
                      refine WL_nil ?_
                      refine nrm ?_
                      exact ⟨_, rfl, e0_55, e1_56, e2_57, e7_58, e8_59, e10_60, e11_62, rfl, h⟩
                  · rintro ρ w113 ⟨t112, e80_111, e0_103, e1_104, e2_105, e7_106, e8_107, e10_108, e11_109, e12_110, h⟩
                    unfold F3_j4 at h
                    refine WC_cond (t := t112) (by exact e80_111) (fun hb114 => ?_) (fun hb114 => ?_)
                    · rw [if_pos hb114] at h
                      refine WC_seq ?_
                      refine WC_region ?_
                      refine WL_val gd0 ((o_move (v := .pointer g17) (by exact e8_107)) _) rfl ?_
                      obtain ⟨x115, x116, x117, x118, x119, x_a120, x_n121, x_c122, hc123, h⟩ := h
                      refine WL_val gd0 (o_loadAgg (vs := [.bool x115, .bool x116, .int .i64 x117, .int .i64 x118, .int .i64 x119, .slice x_a120 x_n121 x_c122]) Try.isAgg32 Try.sizeOf32 (by exact e12_110) hc123) rfl ?_
                      refine WL_call gd0 (o_call Try.call9 (argCons rfl (argCons rfl (argCons rfl argNil))) _) rfl (h.mono ?_)
                      rintro _ w124 ⟨r_a125, r_n126, r_c127, r128, rfl, h⟩
                      refine WL_val gd0 ((o_move (v := .tuple #[.slice r_a125 r_n126 r_c127, .int .i64 r128]) rfl) _) rfl ?_
                      refine WL_val gd0 ((o_extract (vs := [.slice r_a125 r_n126 r_c127, .int .i64 r128]) (r := .slice r_a125 r_n126 r_c127) rfl rfl) _) rfl ?_
                      refine WL_val gd0 ((o_extract (vs := [.slice r_a125 r_n126 r_c127, .int .i64 r128]) (r := .int .i64 r128) rfl rfl) _) rfl ?_
                      refine WL_val gd0 ((o_assign (v := .slice r_a125 r_n126 r_c127) rfl) _) rfl ?_
                      refine WL_val gd0 ((o_assign (v := .int .i64 r128) rfl) _) rfl ?_
                      refine WL_nil ?_
                      refine nrm ?_
                      refine WC_seq ?_
                      refine WC_region ?_
                      refine WL_val gd0 ((o_move (v := .int .i64 r128) rfl) _) rfl ?_
                      refine WL_val gd0 ((o_eql rfl rfl) _) rfl ?_
                      refine WL_nil ?_
                      refine nrm ?_
                      refine WC_cond (t := (decide (r128 = 1))) rfl (fun hb129 => ?_) (fun hb129 => ?_)
                      · rw [if_pos (of_decide_eq_true hb129)] at h
                        refine WC_seq ?_
                        refine WC_seq ?_
                        refine WC_draws [] (.look 0 (.look 1 (.look 2 (.look 3 (.look 4 (.look 5 (.look 6 (.look 7 (.look 8 (.look 9 (.look 10 (.look 11 (.look 12 (.look 13 .nil)))))))))))))) Try.mixed (by kernel_rfl) ?_
                        refine WQ_val rfl gd0 (o_move (v := .int .i64 n61) (by exact e10_108)) rfl ?_
                        refine WQ_val rfl gd0 (o_move (v := .slice units_a1 units_n2 units_c3) (by exact e0_103)) rfl ?_
                        refine WQ_val rfl gd0 (o_len Try.underlying22 rfl) rfl ?_
                        refine WQ_val rfl gd0 (o_geq rfl rfl) rfl ?_
                        refine WQ_val rfl gd0 (o_move (v := .bool (decide ((units_n2 : Int) ≤ n61))) rfl) rfl ?_
                        refine bsplit (decide ((units_n2 : Int) ≤ n61)) (fun hb130 => ?_) (fun hb130 => ?_)
                        · rw [if_pos (of_decide_eq_true hb130)] at h
                          refine WQ_skip rfl (gdN (b := (decide ((units_n2 : Int) ≤ n61))) 93 rfl rfl hb130) rfl ?_
                          refine WQ_skip rfl (gdN (b := (decide ((units_n2 : Int) ≤ n61))) 93 rfl rfl hb130) rfl ?_
                          refine WQ_skip rfl (gdN (b := (decide ((units_n2 : Int) ≤ n61))) 93 rfl rfl hb130) rfl ?_
                          refine WQ_skip rfl (gdN (b := (decide ((units_n2 : Int) ≤ n61))) 93 rfl rfl hb130) rfl ?_
                          refine WQ_skip rfl (gdN (b := (decide ((units_n2 : Int) ≤ n61))) 93 rfl rfl hb130) rfl ?_
                          refine WQ_skip rfl (gdN (b := (decide ((units_n2 : Int) ≤ n61))) 93 rfl rfl hb130) rfl ?_
                          refine WQ_skip rfl (gdN (b := (decide ((units_n2 : Int) ≤ n61))) 93 rfl rfl hb130) rfl ?_
                          refine WQ_skip rfl (gdN (b := (decide ((units_n2 : Int) ≤ n61))) 93 rfl rfl hb130) rfl ?_
                          refine WQ_val rfl gd0 (o_pickT (v := .bool true) rfl hb130 rfl) rfl ?_
                          refine WQ_nil ?_
                          refine nrm ?_
                          refine WC_cond (t := true) rfl (fun _ => ?_) (fun hx => by rw [(rfl : true = true)] at hx; cases hx)
                          refine WC_seq ?_
                          refine WC_region ?_
                          refine WL_val gd0 ((o_assign (v := .bool false) rfl) _) rfl ?_
                          refine WL_nil ?_
                          refine nrm ?_
                          refine WC_ret ?_
                          refine rtT ?_
                          refine rtT ?_
                          refine rtB ?_
                          refine rtT ?_
                          refine rtT ?_
                          refine rtB ?_
                          refine rtT ?_
                          refine rtE ?_
                          exact gv1 rfl rfl h
                        · rw [if_neg (of_decide_eq_false hb130)] at h
                          refine WQ_val rfl (gdY (b := (decide ((units_n2 : Int) ≤ n61))) 93 rfl rfl hb130) (o_move (v := .slice r_a125 r_n126 r_c127) rfl) rfl ?_
                          obtain ⟨s131, r132, h⟩ := h
                          refine WQ_look (fun w => (Conv.bytesToString (.slice r_a125 r_n126 r_c127)).run Try.prog w = .ok (.string s131) w) rfl (gdY (b := (decide ((units_n2 : Int) ≤ n61))) 93 rfl rfl hb130) (fun w hc => (o_toStr Try.underlying28 Try.underlying5 Try.underlying9 rfl hc)) r132 rfl ?_
                          refine WQ_val rfl (gdY (b := (decide ((units_n2 : Int) ≤ n61))) 93 rfl rfl hb130) (o_move (v := .slice units_a1 units_n2 units_c3) (by exact e0_103)) rfl ?_
                          refine WQ_val rfl (gdY (b := (decide ((units_n2 : Int) ≤ n61))) 93 rfl rfl hb130) (o_move (v := .int .i64 n61) (by exact e10_108)) rfl ?_
                          obtain ⟨p135, q136, h⟩ := h
                          obtain ⟨l133, u134, h⟩ := h
                          refine WQ_val rfl (gdY (b := (decide ((units_n2 : Int) ≤ n61))) 93 rfl rfl hb130) (o_indexAddr1 Try.underlying22 Try.sizeOf28 (by exact (congrArg (fun z => Value.slice z units_n2 units_c3) q136)) rfl l133 u134) rfl ?_
                          obtain ⟨x_a137, x_n138, x_c139, hc140, h⟩ := h
                          refine WQ_look (fun w => w.cell? (p135.add n61.toNat) = some (.slice x_a137 x_n138 x_c139)) rfl (gdY (b := (decide ((units_n2 : Int) ≤ n61))) 93 rfl rfl hb130) (fun w hc => (o_load Try.isAgg28 rfl hc)) hc140 rfl ?_
                          obtain ⟨s141, r142, h⟩ := h
                          refine WQ_look (fun w => (Conv.bytesToString (.slice x_a137 x_n138 x_c139)).run Try.prog w = .ok (.string s141) w) rfl (gdY (b := (decide ((units_n2 : Int) ≤ n61))) 93 rfl rfl hb130) (fun w hc => (o_toStr Try.underlying28 Try.underlying5 Try.underlying9 rfl hc)) r142 rfl ?_
                          refine WQ_val rfl (gdY (b := (decide ((units_n2 : Int) ≤ n61))) 93 rfl rfl hb130) (o_neqStr rfl rfl) rfl ?_
                          refine WQ_val rfl gd0 (o_pickF (v := .bool (!(s131.toList == s141.toList))) rfl hb130 rfl) rfl ?_
                          refine WQ_nil ?_
                          refine nrm ?_
                          refine WC_cond (t := (!(s131.toList == s141.toList))) rfl (fun hb143 => ?_) (fun hb143 => ?_)
                          · rw [if_pos hb143] at h
                            refine WC_seq ?_
                            refine WC_region ?_
                            refine WL_val gd0 ((o_assign (v := .bool false) rfl) _) rfl ?_
                            refine WL_nil ?_
                            refine nrm ?_
                            refine WC_ret ?_
                            refine rtT ?_
                            refine rtT ?_
                            refine rtB ?_
                            refine rtT ?_
                            refine rtT ?_
                            refine rtB ?_
                            refine rtT ?_
                            refine rtE ?_
                            exact gv1 rfl rfl h
                          · rw [if_neg (neT hb143)] at h
                            refine WC_skip ?_
                            refine nrm ?_
                            refine WC_region ?_
                            refine WL_val gd0 ((o_move (v := .int .i64 n61) (by exact e10_108)) _) rfl ?_
                            refine WL_val gd0 ((o_add rfl rfl) _) rfl ?_
                            refine WL_val gd0 ((o_assign (v := .int .i64 (IntKind.i64.wrap (n61 + 1))) rfl) _) rfl ?_
                            refine WL_nil ?_
                            refine nrm ?_
                            exact ⟨_, rfl, e0_103, e1_104, e2_105, e7_106, e8_107, e11_109, h⟩
                      · rw [if_neg (of_decide_eq_false hb129)] at h
                        refine WC_skip ?_
                        refine nrm ?_
                        exact ⟨_, e10_108, e0_103, e1_104, e2_105, e7_106, e8_107, e11_109, h⟩
                    · rw [if_neg (neT hb114)] at h
                      refine WC_skip ?_
                      refine nrm ?_
                      exact ⟨_, e10_108, e0_103, e1_104, e2_105, e7_106, e8_107, e11_109, h⟩
                · rintro ρ w89 ⟨n87, e10_86, e0_81, e1_82, e2_83, e7_84, e8_85, e11_88, h⟩
                  unfold F3_j3 at h
                  refine WC_seq ?_
                  refine WC_region ?_
                  refine WL_val gd0 ((o_move (v := .slice down_a7 down_n8 down_c9) (by exact e2_83)) _) rfl ?_
                  refine WL_val gd0 ((o_move (v := .int .i64 t63) (by exact e11_88)) _) rfl ?_
                  refine WL_call gd0 (o_call Try.call8 (argCons rfl (argCons rfl argNil)) _) rfl (h.mono ?_)
                  rintro _ w90 ⟨x91, rfl, h⟩
                  refine WL_val gd0 ((o_not rfl) _) rfl ?_
                  refine WL_val gd0 ((o_move (v := .bool (!x91)) rfl) _) rfl ?_
                  refine bsplit (!x91) (fun hb92 => ?_) (fun hb92 => ?_)
                  · rw [if_pos hb92] at h
                    refine WL_val (gdY (b := (!x91)) 109 rfl rfl hb92) ((o_move (v := .pointer f15) (by exact e7_84)) _) rfl ?_
                    refine WL_val (gdY (b := (!x91)) 109 rfl rfl hb92) ((o_move (v := .pointer g17) (by exact e8_85)) _) rfl ?_
                    refine WL_call (gdY (b := (!x91)) 109 rfl rfl hb92) (o_call Try.call11 (argCons rfl argNil) _) rfl (h.mono ?_)
                    rintro _ w93 ⟨x94, x95, x96, x97, x98, x99, rfl, h⟩
                    refine WL_val (gdY (b := (!x91)) 109 rfl rfl hb92) ((o_move (v := .int .i64 t63) (by exact e11_88)) _) rfl ?_
                    refine WL_call (gdY (b := (!x91)) 109 rfl rfl hb92) (o_call Try.call10 (argCons rfl (argCons rfl (argCons rfl argNil))) _) rfl (h.mono ?_)
                    rintro _ w100 ⟨x101, rfl, h⟩
                    refine WL_val (gdY (b := (!x91)) 109 rfl rfl hb92) ((o_neq rfl rfl) _) rfl ?_
                    refine WL_val gd0 ((o_pickT (v := .bool (decide (x101 ≠ 0))) rfl hb92 rfl) _) rfl ?_
                    refine WL_nil ?_
                    refine nrm ?_
                    refine WC_cond (t := (decide (x101 ≠ 0))) rfl (fun hb102 => ?_) (fun hb102 => ?_)
                    · rw [if_pos (of_decide_eq_true hb102)] at h
                      refine WC_seq ?_
                      refine WC_region ?_
                      refine WL_val gd0 ((o_assign (v := .bool false) rfl) _) rfl ?_
                      refine WL_nil ?_
                      refine nrm ?_
                      refine WC_ret ?_
                      refine rtB ?_
                      refine rtT ?_
                      refine rtT ?_
                      refine rtB ?_
                      refine rtT ?_
                      refine rtE ?_
                      exact gv1 rfl rfl h
                    · rw [if_neg (of_decide_eq_false hb102)] at h
                      refine WC_skip ?_
                      refine nrmB ?_
                      refine nrm ?_
                      refine WC_region ?_
                      refine WL_val gd0 ((o_move (v := .int .i64 t63) (by exact e11_88)) _) rfl ?_
                      refine WL_val gd0 ((o_add rfl rfl) _) rfl ?_
                      refine WL_val gd0 ((o_assign (v := .int .i64 (IntKind.i64.wrap (t63 + 1))) rfl) _) rfl ?_
                      refine WL_nil ?_
                      refine nrm ?_
                      obtain ⟨m65, hm65, h⟩ := h
                      exact ⟨m65, hm65, _, _, e10_86, rfl, e0_81, e1_82, e2_83, e7_84, e8_85, h⟩
                  · rw [if_neg (neT hb92)] at h
                    refine WL_skip (gdN (b := (!x91)) 109 rfl rfl hb92) rfl ?_
                    refine WL_skip (gdN (b := (!x91)) 109 rfl rfl hb92) rfl ?_
                    refine WL_skip (gdN (b := (!x91)) 109 rfl rfl hb92) rfl ?_
                    refine WL_skip (gdN (b := (!x91)) 109 rfl rfl hb92) rfl ?_
                    refine WL_skip (gdN (b := (!x91)) 109 rfl rfl hb92) rfl ?_
                    refine WL_skip (gdN (b := (!x91)) 109 rfl rfl hb92) rfl ?_
                    refine WL_val gd0 ((o_pickF (v := .bool false) rfl hb92 rfl) _) rfl ?_
                    refine WL_nil ?_
                    refine nrm ?_
                    refine WC_cond (t := false) rfl (fun hx => by rw [(rfl : false = false)] at hx; cases hx) (fun _ => ?_)
                    refine WC_skip ?_
                    refine nrmB ?_
                    refine nrm ?_
                    refine WC_region ?_
                    refine WL_val gd0 ((o_move (v := .int .i64 t63) (by exact e11_88)) _) rfl ?_
                    refine WL_val gd0 ((o_add rfl rfl) _) rfl ?_
                    refine WL_val gd0 ((o_assign (v := .int .i64 (IntKind.i64.wrap (t63 + 1))) rfl) _) rfl ?_
                    refine WL_nil ?_
                    refine nrm ?_
                    obtain ⟨m65, hm65, h⟩ := h
                    exact ⟨m65, hm65, _, _, e10_86, rfl, e0_81, e1_82, e2_83, e7_84, e8_85, h⟩
              · rw [if_neg (of_decide_eq_false hb66)] at h
                refine WC_exit ?_
                refine exT ?_
                refine exT ?_
                refine exB ?_
                refine nrm ?_
                refine WC_seq ?_
                refine WC_region ?_
                refine WL_val gd0 ((o_move (v := .int .i64 n61) (by exact e10_60)) _) rfl ?_
                refine WL_val gd0 ((o_move (v := .slice units_a1 units_n2 units_c3) (by exact e0_55)) _) rfl ?_
                refine WL_val gd0 ((o_len Try.underlying22 rfl) _) rfl ?_
                refine WL_val gd0 ((o_eql rfl rfl) _) rfl ?_
                refine WL_val gd0 ((o_move (v := .bool (decide (n61 = (units_n2 : Int)))) rfl) _) rfl ?_
                refine bsplit (decide (n61 = (units_n2 : Int))) (fun hb147 => ?_) (fun hb147 => ?_)
                · rw [if_pos (of_decide_eq_true hb147)] at h
                  refine WL_val (gdY (b := (decide (n61 = (units_n2 : Int)))) 121 rfl rfl hb147) ((o_move (v := .pointer f15) (by exact e7_58)) _) rfl ?_
                  refine WL_call (gdY (b := (decide (n61 = (units_n2 : Int)))) 121 rfl rfl hb147) (o_call Try.call12 (argCons rfl argNil) _) rfl (h.mono ?_)
                  rintro _ w148 ⟨x149, rfl, h⟩
                  refine WL_val (gdY (b := (decide (n61 = (units_n2 : Int)))) 121 rfl rfl hb147) ((o_eql rfl rfl) _) rfl ?_
                  refine WL_val gd0 ((o_pickT (v := .bool (decide (x149 = 0))) rfl hb147 rfl) _) rfl ?_
                  refine WL_val gd0 ((o_move (v := .bool (decide (x149 = 0))) rfl) _) rfl ?_
                  refine bsplit (decide (x149 = 0)) (fun hb150 => ?_) (fun hb150 => ?_)
                  · rw [if_pos (of_decide_eq_true hb150)] at h
                    refine WL_val (gdY (b := (decide (x149 = 0))) 126 rfl rfl hb150) ((o_move (v := .pointer f15) (by exact e7_58)) _) rfl ?_
                    refine WL_call (gdY (b := (decide (x149 = 0))) 126 rfl rfl hb150) (o_call Try.call13 (argCons rfl argNil) _) rfl (h.mono ?_)
                    rintro _ w151 ⟨x152, rfl, h⟩
                    refine WL_val (gdY (b := (decide (x149 = 0))) 126 rfl rfl hb150) ((o_move (v := .int .i64 n61) (by exact e10_60)) _) rfl ?_
                    refine WL_val (gdY (b := (decide (x149 = 0))) 126 rfl rfl hb150) ((o_eql rfl rfl) _) rfl ?_
                    refine WL_val gd0 ((o_pickT (v := .bool (decide (x152 = n61))) rfl hb150 rfl) _) rfl ?_
                    refine WL_val gd0 ((o_move (v := .bool (decide (x152 = n61))) rfl) _) rfl ?_
                    refine bsplit (decide (x152 = n61)) (fun hb153 => ?_) (fun hb153 => ?_)
                    · rw [if_pos (of_decide_eq_true hb153)] at h
                      refine WL_val (gdY (b := (decide (x152 = n61))) 132 rfl rfl hb153) ((o_move (v := .pointer f15) (by exact e7_58)) _) rfl ?_
                      refine WL_call (gdY (b := (decide (x152 = n61))) 132 rfl rfl hb153) (o_call Try.call14 (argCons rfl argNil) _) rfl (h.mono ?_)
                      rintro _ w154 ⟨x155, rfl, h⟩
                      refine WL_val (gdY (b := (decide (x152 = n61))) 132 rfl rfl hb153) ((o_eql rfl rfl) _) rfl ?_
                      refine WL_val gd0 ((o_pickT (v := .bool (decide (x155 = 1))) rfl hb153 rfl) _) rfl ?_
                      refine WL_val gd0 ((o_move (v := .bool (decide (x155 = 1))) rfl) _) rfl ?_
                      refine bsplit (decide (x155 = 1)) (fun hb156 => ?_) (fun hb156 => ?_)
                      · rw [if_pos (of_decide_eq_true hb156)] at h
                        refine WL_val (gdY (b := (decide (x155 = 1))) 137 rfl rfl hb156) ((o_move (v := .pointer f15) (by exact e7_58)) _) rfl ?_
                        have h := New.out h
                        refine WL_val (gdY (b := (decide (x155 = 1))) 137 rfl rfl hb156) (o_buildSlice (e := 5) (ps := [(0, .int .u8 1)]) (cs := [.int .u8 1]) (partCons rfl partNil) (fun w => by kernel_rfl)) rfl ?_
                        generalize hp157 : fresh w154 = p157 at h ⊢
                        generalize hw158 : push w154 5 [.int .u8 1] = w158 at h ⊢
                        try dsimp only at h
                        refine WL_call (gdY (b := (decide (x155 = 1))) 137 rfl rfl hb156) (o_call Try.call6 (argCons rfl (argCons rfl argNil)) _) rfl (h.mono ?_)
                        rintro _ w159 ⟨x160, rfl, h⟩
                        refine WL_val (gdY (b := (decide (x155 = 1))) 137 rfl rfl hb156) ((o_eql rfl rfl) _) rfl ?_
                        refine WL_val gd0 ((o_pickT (v := .bool (decide (x160 = 0))) rfl hb156 rfl) _) rfl ?_
                        refine WL_val gd0 ((o_assign (v := .bool (decide (x160 = 0))) rfl) _) rfl ?_
                        refine WL_nil ?_
                        refine nrm ?_
                        refine WC_ret ?_
                        refine rtE ?_
                        exact gv1 rfl rfl h
                      · rw [if_neg (of_decide_eq_false hb156)] at h
                        refine WL_skip (gdN (b := (decide (x155 = 1))) 137 rfl rfl hb156) rfl ?_
                        refine WL_skip (gdN (b := (decide (x155 = 1))) 137 rfl rfl hb156) rfl ?_
                        refine WL_skip (gdN (b := (decide (x155 = 1))) 137 rfl rfl hb156) rfl ?_
                        refine WL_skip (gdN (b := (decide (x155 = 1))) 137 rfl rfl hb156) rfl ?_
                        refine WL_val gd0 ((o_pickF (v := .bool false) rfl hb156 rfl) _) rfl ?_
                        refine WL_val gd0 ((o_assign (v := .bool false) rfl) _) rfl ?_
                        refine WL_nil ?_
                        refine nrm ?_
                        refine WC_ret ?_
                        refine rtE ?_
                        exact gv1 rfl rfl h
                    · rw [if_neg (of_decide_eq_false hb153)] at h
                      refine WL_skip (gdN (b := (decide (x152 = n61))) 132 rfl rfl hb153) rfl ?_
                      refine WL_skip (gdN (b := (decide (x152 = n61))) 132 rfl rfl hb153) rfl ?_
                      refine WL_skip (gdN (b := (decide (x152 = n61))) 132 rfl rfl hb153) rfl ?_
                      refine WL_val gd0 ((o_pickF (v := .bool false) rfl hb153 rfl) _) rfl ?_
                      refine WL_val gd0 ((o_move (v := .bool false) rfl) _) rfl ?_
                      refine WL_skip (gdN (b := false) 137 rfl rfl rfl) rfl ?_
                      refine WL_skip (gdN (b := false) 137 rfl rfl rfl) rfl ?_
                      refine WL_skip (gdN (b := false) 137 rfl rfl rfl) rfl ?_
                      refine WL_skip (gdN (b := false) 137 rfl rfl rfl) rfl ?_
                      refine WL_val gd0 ((o_pickF (v := .bool false) rfl rfl rfl) _) rfl ?_
                      refine WL_val gd0 ((o_assign (v := .bool false) rfl) _) rfl ?_
                      refine WL_nil ?_
                      refine nrm ?_
                      refine WC_ret ?_
                      refine rtE ?_
                      exact gv1 rfl rfl h
                  · rw [if_neg (of_decide_eq_false hb150)] at h
                    refine WL_skip (gdN (b := (decide (x149 = 0))) 126 rfl rfl hb150) rfl ?_
                    refine WL_skip (gdN (b := (decide (x149 = 0))) 126 rfl rfl hb150) rfl ?_
                    refine WL_skip (gdN (b := (decide (x149 = 0))) 126 rfl rfl hb150) rfl ?_
                    refine WL_skip (gdN (b := (decide (x149 = 0))) 126 rfl rfl hb150) rfl ?_
                    refine WL_val gd0 ((o_pickF (v := .bool false) rfl hb150 rfl) _) rfl ?_
                    refine WL_val gd0 ((o_move (v := .bool false) rfl) _) rfl ?_
                    refine WL_skip (gdN (b := false) 132 rfl rfl rfl) rfl ?_
                    refine WL_skip (gdN (b := false) 132 rfl rfl rfl) rfl ?_
                    refine WL_skip (gdN (b := false) 132 rfl rfl rfl) rfl ?_
                    refine WL_val gd0 ((o_pickF (v := .bool false) rfl rfl rfl) _) rfl ?_
                    refine WL_val gd0 ((o_move (v := .bool false) rfl) _) rfl ?_
                    refine WL_skip (gdN (b := false) 137 rfl rfl rfl) rfl ?_
                    refine WL_skip (gdN (b := false) 137 rfl rfl rfl) rfl ?_
                    refine WL_skip (gdN (b := false) 137 rfl rfl rfl) rfl ?_
                    refine WL_skip (gdN (b := false) 137 rfl rfl rfl) rfl ?_
                    refine WL_val gd0 ((o_pickF (v := .bool false) rfl rfl rfl) _) rfl ?_
                    refine WL_val gd0 ((o_assign (v := .bool false) rfl) _) rfl ?_
                    refine WL_nil ?_
                    refine nrm ?_
                    refine WC_ret ?_
                    refine rtE ?_
                    exact gv1 rfl rfl h
                · rw [if_neg (of_decide_eq_false hb147)] at h
                  refine WL_skip (gdN (b := (decide (n61 = (units_n2 : Int)))) 121 rfl rfl hb147) rfl ?_
                  refine WL_skip (gdN (b := (decide (n61 = (units_n2 : Int)))) 121 rfl rfl hb147) rfl ?_
                  refine WL_skip (gdN (b := (decide (n61 = (units_n2 : Int)))) 121 rfl rfl hb147) rfl ?_
                  refine WL_val gd0 ((o_pickF (v := .bool false) rfl hb147 rfl) _) rfl ?_
                  refine WL_val gd0 ((o_move (v := .bool false) rfl) _) rfl ?_
                  refine WL_skip (gdN (b := false) 126 rfl rfl rfl) rfl ?_
                  refine WL_skip (gdN (b := false) 126 rfl rfl rfl) rfl ?_
                  refine WL_skip (gdN (b := false) 126 rfl rfl rfl) rfl ?_
                  refine WL_skip (gdN (b := false) 126 rfl rfl rfl) rfl ?_
                  refine WL_val gd0 ((o_pickF (v := .bool false) rfl rfl rfl) _) rfl ?_
                  refine WL_val gd0 ((o_move (v := .bool false) rfl) _) rfl ?_
                  refine WL_skip (gdN (b := false) 132 rfl rfl rfl) rfl ?_
                  refine WL_skip (gdN (b := false) 132 rfl rfl rfl) rfl ?_
                  refine WL_skip (gdN (b := false) 132 rfl rfl rfl) rfl ?_
                  refine WL_val gd0 ((o_pickF (v := .bool false) rfl rfl rfl) _) rfl ?_
                  refine WL_val gd0 ((o_move (v := .bool false) rfl) _) rfl ?_
                  refine WL_skip (gdN (b := false) 137 rfl rfl rfl) rfl ?_
                  refine WL_skip (gdN (b := false) 137 rfl rfl rfl) rfl ?_
                  refine WL_skip (gdN (b := false) 137 rfl rfl rfl) rfl ?_
                  refine WL_skip (gdN (b := false) 137 rfl rfl rfl) rfl ?_
                  refine WL_val gd0 ((o_pickF (v := .bool false) rfl rfl rfl) _) rfl ?_
                  refine WL_val gd0 ((o_assign (v := .bool false) rfl) _) rfl ?_
                  refine WL_nil ?_
                  refine nrm ?_
                  refine WC_ret ?_
                  refine rtE ?_
                  exact gv1 rfl rfl h

/-- spacecraft fop.New -/
def F4 (craft1 : Int) (channel2 : Int) (size3 : Int) (timeout4 : Int) (retries5 : Int) (w6 : World) (k : Value → World → Prop) : Prop :=
  Does Try.prog 15 #[.int .i64 size3, .int .i64 1, .int .i64 127] w6 (fun v w7 => ∃ (x8 : Int), v = .int .i64 x8 ∧ Does Try.prog 15 #[.int .i64 craft1, .int .i64 0, .int .i64 1023] w7 (fun v w9 => ∃ (x10 : Int), v = .int .i64 x10 ∧ Does Try.prog 15 #[.int .i64 channel2, .int .i64 0, .int .i64 7] w9 (fun v w11 => ∃ (x12 : Int), v = .int .i64 x12 ∧ Does Try.prog 15 #[.int .i64 timeout4, .int .i64 1, .int .i64 1099511627776] w11 (fun v w13 => ∃ (x14 : Int), v = .int .i64 x14 ∧ Does Try.prog 15 #[.int .i64 retries5, .int .i64 0, .int .i64 255] w13 (fun v w15 => ∃ (x16 : Int), v = .int .i64 x16 ∧ New w15 49 [.int .i64 x8, .slice none 0 0, .int .i64 0, .int .i64 0, .int .i64 0, .bool true, .int .i64 x10, .int .i64 x12, .int .i64 x14, .int .i64 x16, .int .i64 1, .slice none 0 0, .int .i64 0, .int .i64 0, .int .i64 0] (fun p17 w18 => k (.pointer (some p17)) w18))))))
set_option maxRecDepth 100000 in
set_option maxHeartbeats 2000000 in
theorem w4 (craft1 : Int) (channel2 : Int) (size3 : Int) (timeout4 : Int) (retries5 : Int) (w6 : World) (k : Value → World → Prop) (h : F4 craft1 channel2 size3 timeout4 retries5 w6 k) : Does Try.prog 4 #[.int .i64 craft1, .int .i64 channel2, .int .i64 size3, .int .i64 timeout4, .int .i64 retries5] w6 k := by
  refine enter 30 Try.func4 rfl rfl rfl ?_
  intro ρ hρ
  have e0 := hρ 0 _ rfl
  have e1 := hρ 1 _ rfl
  have e2 := hρ 2 _ rfl
  have e3 := hρ 3 _ rfl
  have e4 := hρ 4 _ rfl
  unfold F4 at h
  refine WC_seq ?_
  refine WC_region ?_
  refine WL_val gd0 ((o_assign (v := .pointer none) rfl) _) rfl ?_
  refine WL_nil ?_
  refine nrm ?_
  refine WC_seq ?_
  refine WC_region ?_
  refine WL_val gd0 ((o_assign (v := .func (.func 15) #[] #[]) rfl) _) rfl ?_
  refine WL_nil ?_
  refine nrm ?_
  refine WC_seq ?_
  refine WC_region ?_
  refine WL_val gd0 ((o_move (v := .func (.func 15) #[] #[]) rfl) _) rfl ?_
  refine WL_val gd0 ((o_move (v := .int .i64 size3) (by exact e2)) _) rfl ?_
  refine WL_call gd0 (o_callVal (bs := []) (cs := []) Try.call15 rfl (argCons rfl (argCons rfl (argCons rfl argNil))) _) rfl (h.mono ?_)
  rintro _ w7 ⟨x8, rfl, h⟩
  refine WL_val gd0 ((o_build (ps := [(0, .int .i64 x8)]) (v := .agg #[.int .i64 x8, .slice none 0 0, .int .i64 0, .int .i64 0, .int .i64 0]) (partCons rfl partNil) (fun w => by kernel_rfl)) _) rfl ?_
  refine WL_val gd0 ((o_move (v := .func (.func 15) #[] #[]) rfl) _) rfl ?_
  refine WL_val gd0 ((o_move (v := .int .i64 craft1) (by exact e0)) _) rfl ?_
  refine WL_call gd0 (o_callVal (bs := []) (cs := []) Try.call15 rfl (argCons rfl (argCons rfl (argCons rfl argNil))) _) rfl (h.mono ?_)
  rintro _ w9 ⟨x10, rfl, h⟩
  refine WL_val gd0 ((o_move (v := .func (.func 15) #[] #[]) rfl) _) rfl ?_
  refine WL_val gd0 ((o_move (v := .int .i64 channel2) (by exact e1)) _) rfl ?_
  refine WL_call gd0 (o_callVal (bs := []) (cs := []) Try.call15 rfl (argCons rfl (argCons rfl (argCons rfl argNil))) _) rfl (h.mono ?_)
  rintro _ w11 ⟨x12, rfl, h⟩
  refine WL_val gd0 ((o_move (v := .func (.func 15) #[] #[]) rfl) _) rfl ?_
  refine WL_val gd0 ((o_move (v := .int .i64 timeout4) (by exact e3)) _) rfl ?_
  refine WL_call gd0 (o_callVal (bs := []) (cs := []) Try.call15 rfl (argCons rfl (argCons rfl (argCons rfl argNil))) _) rfl (h.mono ?_)
  rintro _ w13 ⟨x14, rfl, h⟩
  refine WL_val gd0 ((o_move (v := .func (.func 15) #[] #[]) rfl) _) rfl ?_
  refine WL_val gd0 ((o_move (v := .int .i64 retries5) (by exact e4)) _) rfl ?_
  refine WL_call gd0 (o_callVal (bs := []) (cs := []) Try.call15 rfl (argCons rfl (argCons rfl (argCons rfl argNil))) _) rfl (h.mono ?_)
  rintro _ w15 ⟨x16, rfl, h⟩
  refine WL_val gd0 ((o_build (ps := [(0, .agg #[.int .i64 x8, .slice none 0 0, .int .i64 0, .int .i64 0, .int .i64 0]), (1, .bool true), (6, .int .i64 1), (2, .int .i64 x10), (3, .int .i64 x12), (4, .int .i64 x14), (5, .int .i64 x16)]) (v := .agg #[.int .i64 x8, .slice none 0 0, .int .i64 0, .int .i64 0, .int .i64 0, .bool true, .int .i64 x10, .int .i64 x12, .int .i64 x14, .int .i64 x16, .int .i64 1, .slice none 0 0, .int .i64 0, .int .i64 0, .int .i64 0]) (partCons rfl (partCons rfl (partCons rfl (partCons rfl (partCons rfl (partCons rfl (partCons rfl partNil))))))) (fun w => by kernel_rfl)) _) rfl ?_
  have h := New.out h
  refine WL_val gd0 (o_box (v := .agg #[.int .i64 x8, .slice none 0 0, .int .i64 0, .int .i64 0, .int .i64 0, .bool true, .int .i64 x10, .int .i64 x12, .int .i64 x14, .int .i64 x16, .int .i64 1, .slice none 0 0, .int .i64 0, .int .i64 0, .int .i64 0]) (cs := [.int .i64 x8, .slice none 0 0, .int .i64 0, .int .i64 0, .int .i64 0, .bool true, .int .i64 x10, .int .i64 x12, .int .i64 x14, .int .i64 x16, .int .i64 1, .slice none 0 0, .int .i64 0, .int .i64 0, .int .i64 0]) rfl rfl) rfl ?_
  generalize hp17 : fresh w15 = p17 at h ⊢
  generalize hw18 : push w15 49 [.int .i64 x8, .slice none 0 0, .int .i64 0, .int .i64 0, .int .i64 0, .bool true, .int .i64 x10, .int .i64 x12, .int .i64 x14, .int .i64 x16, .int .i64 1, .slice none 0 0, .int .i64 0, .int .i64 0, .int .i64 0] = w18 at h ⊢
  try dsimp only at h
  refine WL_val gd0 ((o_assign (v := .pointer (some p17)) rfl) _) rfl ?_
  refine WL_nil ?_
  refine nrm ?_
  refine WC_ret ?_
  refine rtE ?_
  exact gv1 rfl rfl h

/-- spacecraft farm.New -/
def F5 (craft1 : Int) (channel2 : Int) (window3 : Int) (w4 : World) (k : Value → World → Prop) : Prop :=
  if craft1 < 0 then
  k (.pointer none) w4
else
  if 1023 < craft1 then
    k (.pointer none) w4
  else
    if channel2 < 0 then
      k (.pointer none) w4
    else
      if 7 < channel2 then
        k (.pointer none) w4
      else
        New w4 51 [.int .i64 craft1, .int .i64 (min (max window3 1) 127), .int .i64 channel2, .bool false, .bool false, .bool false, .int .i64 0, .int .i64 0] (fun p9 w10 => k (.pointer (some p9)) w10)
set_option maxRecDepth 100000 in
set_option maxHeartbeats 2000000 in
theorem w5 (craft1 : Int) (channel2 : Int) (window3 : Int) (w4 : World) (k : Value → World → Prop) (h : F5 craft1 channel2 window3 w4 k) : Does Try.prog 5 #[.int .i64 craft1, .int .i64 channel2, .int .i64 window3] w4 k := by
  refine enter 29 Try.func5 rfl rfl rfl ?_
  intro ρ hρ
  have e0 := hρ 0 _ rfl
  have e1 := hρ 1 _ rfl
  have e2 := hρ 2 _ rfl
  unfold F5 at h
  refine WC_seq ?_
  refine WC_region ?_
  refine WL_val gd0 ((o_assign (v := .pointer none) rfl) _) rfl ?_
  refine WL_nil ?_
  refine nrm ?_
  refine WC_seq ?_
  refine WC_seq ?_
  refine WC_region ?_
  refine WL_val gd0 ((o_move (v := .int .i64 craft1) (by exact e0)) _) rfl ?_
  refine WL_val gd0 ((o_lss rfl rfl) _) rfl ?_
  refine WL_val gd0 ((o_move (v := .bool (decide (craft1 < 0))) rfl) _) rfl ?_
  refine bsplit (decide (craft1 < 0)) (fun hb5 => ?_) (fun hb5 => ?_)
  · rw [if_pos (of_decide_eq_true hb5)] at h
    refine WL_skip (gdN (b := (decide (craft1 < 0))) 9 rfl rfl hb5) rfl ?_
    refine WL_skip (gdN (b := (decide (craft1 < 0))) 9 rfl rfl hb5) rfl ?_
    refine WL_val gd0 ((o_pickT (v := .bool true) rfl hb5 rfl) _) rfl ?_
    refine WL_val gd0 ((o_move (v := .bool true) rfl) _) rfl ?_
    refine WL_skip (gdN (b := true) 13 rfl rfl rfl) rfl ?_
    refine WL_skip (gdN (b := true) 13 rfl rfl rfl) rfl ?_
    refine WL_val gd0 ((o_pickT (v := .bool true) rfl rfl rfl) _) rfl ?_
    refine WL_val gd0 ((o_move (v := .bool true) rfl) _) rfl ?_
    refine WL_skip (gdN (b := true) 17 rfl rfl rfl) rfl ?_
    refine WL_skip (gdN (b := true) 17 rfl rfl rfl) rfl ?_
    refine WL_val gd0 ((o_pickT (v := .bool true) rfl rfl rfl) _) rfl ?_
    refine WL_nil ?_
    refine nrm ?_
    refine WC_cond (t := true) rfl (fun _ => ?_) (fun hx => by rw [(rfl : true = true)] at hx; cases hx)
    refine WC_seq ?_
    refine WC_region ?_
    refine WL_val gd0 ((o_assign (v := .pointer none) rfl) _) rfl ?_
    refine WL_nil ?_
    refine nrm ?_
    refine WC_ret ?_
    refine rtT ?_
    refine rtE ?_
    exact gv1 rfl rfl h
  · rw [if_neg (of_decide_eq_false hb5)] at h
    refine WL_val (gdY (b := (decide (craft1 < 0))) 9 rfl rfl hb5) ((o_move (v := .int .i64 craft1) (by exact e0)) _) rfl ?_
    refine WL_val (gdY (b := (decide (craft1 < 0))) 9 rfl rfl hb5) ((o_gtr rfl rfl) _) rfl ?_
    refine WL_val gd0 ((o_pickF (v := .bool (decide (1023 < craft1))) rfl hb5 rfl) _) rfl ?_
    refine WL_val gd0 ((o_move (v := .bool (decide (1023 < craft1))) rfl) _) rfl ?_
    refine bsplit (decide (1023 < craft1)) (fun hb6 => ?_) (fun hb6 => ?_)
    · rw [if_pos (of_decide_eq_true hb6)] at h
      refine WL_skip (gdN (b := (decide (1023 < craft1))) 13 rfl rfl hb6) rfl ?_
      refine WL_skip (gdN (b := (decide (1023 < craft1))) 13 rfl rfl hb6) rfl ?_
      refine WL_val gd0 ((o_pickT (v := .bool true) rfl hb6 rfl) _) rfl ?_
      refine WL_val gd0 ((o_move (v := .bool true) rfl) _) rfl ?_
      refine WL_skip (gdN (b := true) 17 rfl rfl rfl) rfl ?_
      refine WL_skip (gdN (b := true) 17 rfl rfl rfl) rfl ?_
      refine WL_val gd0 ((o_pickT (v := .bool true) rfl rfl rfl) _) rfl ?_
      refine WL_nil ?_
      refine nrm ?_
      refine WC_cond (t := true) rfl (fun _ => ?_) (fun hx => by rw [(rfl : true = true)] at hx; cases hx)
      refine WC_seq ?_
      refine WC_region ?_
      refine WL_val gd0 ((o_assign (v := .pointer none) rfl) _) rfl ?_
      refine WL_nil ?_
      refine nrm ?_
      refine WC_ret ?_
      refine rtT ?_
      refine rtE ?_
      exact gv1 rfl rfl h
    · rw [if_neg (of_decide_eq_false hb6)] at h
      refine WL_val (gdY (b := (decide (1023 < craft1))) 13 rfl rfl hb6) ((o_move (v := .int .i64 channel2) (by exact e1)) _) rfl ?_
      refine WL_val (gdY (b := (decide (1023 < craft1))) 13 rfl rfl hb6) ((o_lss rfl rfl) _) rfl ?_
      refine WL_val gd0 ((o_pickF (v := .bool (decide (channel2 < 0))) rfl hb6 rfl) _) rfl ?_
      refine WL_val gd0 ((o_move (v := .bool (decide (channel2 < 0))) rfl) _) rfl ?_
      refine bsplit (decide (channel2 < 0)) (fun hb7 => ?_) (fun hb7 => ?_)
      · rw [if_pos (of_decide_eq_true hb7)] at h
        refine WL_skip (gdN (b := (decide (channel2 < 0))) 17 rfl rfl hb7) rfl ?_
        refine WL_skip (gdN (b := (decide (channel2 < 0))) 17 rfl rfl hb7) rfl ?_
        refine WL_val gd0 ((o_pickT (v := .bool true) rfl hb7 rfl) _) rfl ?_
        refine WL_nil ?_
        refine nrm ?_
        refine WC_cond (t := true) rfl (fun _ => ?_) (fun hx => by rw [(rfl : true = true)] at hx; cases hx)
        refine WC_seq ?_
        refine WC_region ?_
        refine WL_val gd0 ((o_assign (v := .pointer none) rfl) _) rfl ?_
        refine WL_nil ?_
        refine nrm ?_
        refine WC_ret ?_
        refine rtT ?_
        refine rtE ?_
        exact gv1 rfl rfl h
      · rw [if_neg (of_decide_eq_false hb7)] at h
        refine WL_val (gdY (b := (decide (channel2 < 0))) 17 rfl rfl hb7) ((o_move (v := .int .i64 channel2) (by exact e1)) _) rfl ?_
        refine WL_val (gdY (b := (decide (channel2 < 0))) 17 rfl rfl hb7) ((o_gtr rfl rfl) _) rfl ?_
        refine WL_val gd0 ((o_pickF (v := .bool (decide (7 < channel2))) rfl hb7 rfl) _) rfl ?_
        refine WL_nil ?_
        refine nrm ?_
        refine WC_cond (t := (decide (7 < channel2))) rfl (fun hb8 => ?_) (fun hb8 => ?_)
        · rw [if_pos (of_decide_eq_true hb8)] at h
          refine WC_seq ?_
          refine WC_region ?_
          refine WL_val gd0 ((o_assign (v := .pointer none) rfl) _) rfl ?_
          refine WL_nil ?_
          refine nrm ?_
          refine WC_ret ?_
          refine rtT ?_
          refine rtE ?_
          exact gv1 rfl rfl h
        · rw [if_neg (of_decide_eq_false hb8)] at h
          refine WC_skip ?_
          refine nrm ?_
          refine WC_seq ?_
          refine WC_region ?_
          refine WL_val gd0 ((o_move (v := .int .i64 craft1) (by exact e0)) _) rfl ?_
          refine WL_val gd0 ((o_move (v := .int .i64 window3) (by exact e2)) _) rfl ?_
          refine WL_val gd0 ((o_max2 rfl rfl) _) rfl ?_
          refine WL_val gd0 ((o_min2 rfl rfl) _) rfl ?_
          refine WL_val gd0 ((o_move (v := .int .i64 channel2) (by exact e1)) _) rfl ?_
          refine WL_val gd0 ((o_build (ps := [(0, .int .i64 channel2)]) (v := .agg #[.int .i64 channel2, .bool false, .bool false, .bool false, .int .i64 0, .int .i64 0]) (partCons rfl partNil) (fun w => by kernel_rfl)) _) rfl ?_
          refine WL_val gd0 ((o_build (ps := [(0, .int .i64 craft1), (1, .int .i64 (min (max window3 1) 127)), (2, .agg #[.int .i64 channel2, .bool false, .bool false, .bool false, .int .i64 0, .int .i64 0])]) (v := .agg #[.int .i64 craft1, .int .i64 (min (max window3 1) 127), .int .i64 channel2, .bool false, .bool false, .bool false, .int .i64 0, .int .i64 0]) (partCons rfl (partCons rfl (partCons rfl partNil))) (fun w => by kernel_rfl)) _) rfl ?_
          have h := New.out h
          refine WL_val gd0 (o_box (v := .agg #[.int .i64 craft1, .int .i64 (min (max window3 1) 127), .int .i64 channel2, .bool false, .bool false, .bool false, .int .i64 0, .int .i64 0]) (cs := [.int .i64 craft1, .int .i64 (min (max window3 1) 127), .int .i64 channel2, .bool false, .bool false, .bool false, .int .i64 0, .int .i64 0]) rfl rfl) rfl ?_
          generalize hp9 : fresh w4 = p9 at h ⊢
          generalize hw10 : push w4 51 [.int .i64 craft1, .int .i64 (min (max window3 1) 127), .int .i64 channel2, .bool false, .bool false, .bool false, .int .i64 0, .int .i64 0] = w10 at h ⊢
          try dsimp only at h
          refine WL_val gd0 ((o_assign (v := .pointer (some p9)) rfl) _) rfl ?_
          refine WL_nil ?_
          refine nrm ?_
          refine WC_ret ?_
          refine rtE ?_
          exact gv1 rfl rfl h

def F6_j1 (f1 : Option Addr) (data_a2 : Option Addr) (data_n3 : Nat) (data_c4 : Nat) (t12 : Bool) (w13 : World) (k : Value → World → Prop) : Prop :=
  if t12 = true then
  k (.int .i64 1) w13
else
  ∃ (p15 : Addr), f1 = some p15 ∧ ∃ (x_a17 : Option Addr) (x_n18 x_c19 : Nat), w13.cell? (p15.add 1) = some (.slice x_a17 x_n18 x_c19) ∧ if 256 ≤ (x_n18 : Int) then
    k (.int .i64 7) w13
  else
    ∃ (x_a22 : Option Addr) (x_n23 x_c24 : Nat), w13.drew.cell? (p15.add 1) = some (.slice x_a22 x_n23 x_c24) ∧ Does Try.prog 17 #[.slice data_a2 data_n3 data_c4] w13.drew (fun v w26 => ∃ (x_a27 : Option Addr) (x_n28 x_c29 : Nat), v = .slice x_a27 x_n28 x_c29 ∧ w26.cell? (p15.add 1) = some (.slice x_a22 x_n23 x_c24) ∧ New w26 28 [.slice x_a27 x_n28 x_c29] (fun p31 w32 => w32.cell? (p15.add 1) = some (.slice x_a22 x_n23 x_c24) ∧ ∃ (b_a34 : Option Addr) (b_n35 b_c36 : Nat) (w37 : World), (Builtin.append_ #[22, 22] 22 #[.slice x_a22 x_n23 x_c24, .slice (some p31) 1 1]).run Try.prog w32 = .ok (.slice b_a34 b_n35 b_c36) w37 ∧ Put w37 (p15.add 1) (.slice b_a34 b_n35 b_c36) (fun w39 => k (.int .i64 0) w39)))
/-- (*spacecraft fop.Fop).Send -/
def F6 (f1 : Option Addr) (data_a2 : Option Addr) (data_n3 : Nat) (data_c4 : Nat) (w5 : World) (k : Value → World → Prop) : Prop :=
  Does Try.prog 16 #[.pointer f1] w5 (fun v w6 => ∃ (x7 : Bool), v = .bool x7 ∧ if (!x7) = true then
  k (.int .i64 2) w6
else
  if (data_n3 : Int) < 1 then
    F6_j1 f1 data_a2 data_n3 data_c4 true w6 k
  else
    F6_j1 f1 data_a2 data_n3 data_c4 (decide (1017 < (data_n3 : Int))) w6 k)
set_option maxRecDepth 100000 in
set_option maxHeartbeats 2000000 in
theorem w6 (f1 : Option Addr) (data_a2 : Option Addr) (data_n3 : Nat) (data_c4 : Nat) (w5 : World) (k : Value → World → Prop) (h : F6 f1 data_a2 data_n3 data_c4 w5 k) : Does Try.prog 6 #[.pointer f1, .slice data_a2 data_n3 data_c4] w5 k := by
  refine enter 39 Try.func6 rfl rfl rfl ?_
  intro ρ hρ
  have e0 := hρ 0 _ rfl
  have e1 := hρ 1 _ rfl
  unfold F6 at h
  refine WC_seq ?_
  refine WC_region ?_
  refine WL_val gd0 ((o_assign (v := .int .i64 0) rfl) _) rfl ?_
  refine WL_nil ?_
  refine nrm ?_
  refine WC_seq ?_
  refine WC_block ?_
  refine WC_seq ?_
  refine WC_region ?_
  refine WL_val gd0 ((o_move (v := .pointer f1) (by exact e0)) _) rfl ?_
  refine WL_call gd0 (o_call Try.call16 (argCons rfl argNil) _) rfl (h.mono ?_)
  rintro _ w6 ⟨x7, rfl, h⟩
  refine WL_val gd0 ((o_not rfl) _) rfl ?_
  refine WL_val gd0 ((o_assign (v := .bool (!x7)) rfl) _) rfl ?_
  refine WL_nil ?_
  refine nrm ?_
  refine WC_cond (t := (!x7)) rfl (fun hb8 => ?_) (fun hb8 => ?_)
  · rw [if_pos hb8] at h
    refine WC_seq ?_
    refine WC_region ?_
    refine WL_val gd0 ((o_assign (v := .int .i64 2) rfl) _) rfl ?_
    refine WL_nil ?_
    refine nrm ?_
    refine WC_ret ?_
    refine rtB ?_
    refine rtT ?_
    refine rtE ?_
    exact gv1 rfl rfl h
  · rw [if_neg (neT hb8)] at h
    refine WC_cut (fun ρ w' => ∃ (t12 : Bool), ρ 9 = .bool t12 ∧ ρ 0 = .pointer f1 ∧ ρ 1 = .slice data_a2 data_n3 data_c4 ∧ F6_j1 f1 data_a2 data_n3 data_c4 t12 w' k) ?_ ?_
    · refine WC_region ?_
      refine WL_val gd0 ((o_move (v := .slice data_a2 data_n3 data_c4) (by exact e1)) _) rfl ?_
      refine WL_val gd0 ((o_len Try.underlying28 rfl) _) rfl ?_
      refine WL_val gd0 ((o_lss rfl rfl) _) rfl ?_
      refine WL_val gd0 ((o_move (v := .bool (decide ((data_n3 : Int) < 1))) rfl) _) rfl ?_
      refine bsplit (decide ((data_n3 : Int) < 1)) (fun hb41 => ?_) (fun hb41 => ?_)
      · rw [if_pos (of_decide_eq_true hb41)] at h
        refine WL_skip (gdN (b := (decide ((data_n3 : Int) < 1))) 13 rfl rfl hb41) rfl ?_
        refine WL_skip (gdN (b := (decide ((data_n3 : Int) < 1))) 13 rfl rfl hb41) rfl ?_
        refine WL_skip (gdN (b := (decide ((data_n3 : Int) < 1))) 13 rfl rfl hb41) rfl ?_
        refine WL_val gd0 ((o_pickT (v := .bool true) rfl hb41 rfl) _) rfl ?_
        refine WL_val gd0 ((o_assign (v := .bool true) rfl) _) rfl ?_
        refine WL_nil ?_
        refine nrm ?_
        exact ⟨_, rfl, e0, e1, h⟩
      · rw [if_neg (of_decide_eq_false hb41)] at h
        refine WL_val (gdY (b := (decide ((data_n3 : Int) < 1))) 13 rfl rfl hb41) ((o_move (v := .slice data_a2 data_n3 data_c4) (by exact e1)) _) rfl ?_
        refine WL_val (gdY (b := (decide ((data_n3 : Int) < 1))) 13 rfl rfl hb41) ((o_len Try.underlying28 rfl) _) rfl ?_
        refine WL_val (gdY (b := (decide ((data_n3 : Int) < 1))) 13 rfl rfl hb41) ((o_gtr rfl rfl) _) rfl ?_
        refine WL_val gd0 ((o_pickF (v := .bool (decide (1017 < (data_n3 : Int)))) rfl hb41 rfl) _) rfl ?_
        refine WL_val gd0 ((o_assign (v := .bool (decide (1017 < (data_n3 : Int)))) rfl) _) rfl ?_
        refine WL_nil ?_
        refine nrm ?_
        exact ⟨_, rfl, e0, e1, h⟩
    · rintro ρ w13 ⟨t12, e9_11, e0_9, e1_10, h⟩
      unfold F6_j1 at h
      refine WC_cond (t := t12) (by exact e9_11) (fun hb14 => ?_) (fun hb14 => ?_)
      · rw [if_pos hb14] at h
        refine WC_seq ?_
        refine WC_region ?_
        refine WL_val gd0 ((o_assign (v := .int .i64 1) rfl) _) rfl ?_
        refine WL_nil ?_
        refine nrm ?_
        refine WC_ret ?_
        refine rtB ?_
        refine rtT ?_
        refine rtE ?_
        exact gv1 rfl rfl h
      · rw [if_neg (neT hb14)] at h
        refine WC_seq ?_
        refine WC_region ?_
        refine WL_val gd0 ((o_move (v := .pointer f1) (by exact e0_9)) _) rfl ?_
        obtain ⟨p15, q16, h⟩ := h
        refine WL_val gd0 ((o_nilCheck (by exact (congrArg Value.pointer q16))) _) rfl ?_
        refine WL_val gd0 ((o_fieldAddr0 Try.underlying49 rfl Try.sizeOf46 rfl rfl rfl) _) rfl ?_
        refine WL_val gd0 ((o_fieldAddr 1 Try.underlying46 rfl Try.sizeOf22 rfl rfl rfl) _) rfl ?_
        obtain ⟨x_a17, x_n18, x_c19, hc20, h⟩ := h
        refine WL_val gd0 (o_load Try.isAgg22 rfl hc20) rfl ?_
        refine WL_val gd0 ((o_len Try.underlying22 rfl) _) rfl ?_
        refine WL_val gd0 ((o_geq rfl rfl) _) rfl ?_
        refine WL_val gd0 ((o_assign (v := .bool (decide (256 ≤ (x_n18 : Int)))) rfl) _) rfl ?_
        refine WL_nil ?_
        refine nrm ?_
        refine WC_cond (t := (decide (256 ≤ (x_n18 : Int)))) rfl (fun hb21 => ?_) (fun hb21 => ?_)
        · rw [if_pos (of_decide_eq_true hb21)] at h
          refine WC_seq ?_
          refine WC_region ?_
          refine WL_val gd0 ((o_assign (v := .int .i64 7) rfl) _) rfl ?_
          refine WL_nil ?_
          refine nrm ?_
          refine WC_ret ?_
          refine rtB ?_
          refine rtT ?_
          refine rtE ?_
          exact gv1 rfl rfl h
        · rw [if_neg (of_decide_eq_false hb21)] at h
          refine WC_skip ?_
          refine nrmB ?_
          refine nrm ?_
          refine WC_seq ?_
          refine WC_draws [7, 8, 9, 13] (.look 0 (.look 1 (.look 2 (.look 3 (.look 4 (.look 5 (.look 6 (.act 7 (.act 8 (.act 9 (.look 10 (.look 11 (.look 12 (.act 13 .nil)))))))))))))) Try.mixed (by kernel_rfl) ?_
          refine WQ_val rfl gd0 (o_move (v := .pointer f1) (by exact e0_9)) rfl ?_
          refine WQ_val rfl gd0 (o_move (v := .pointer f1) (by exact e0_9)) rfl ?_
          refine WQ_val rfl gd0 (o_nilCheck (by exact (congrArg Value.pointer q16))) rfl ?_
          refine WQ_val rfl gd0 (o_fieldAddr0 Try.underlying49 rfl Try.sizeOf46 rfl rfl rfl) rfl ?_
          refine WQ_val rfl gd0 (o_fieldAddr 1 Try.underlying46 rfl Try.sizeOf22 rfl rfl rfl) rfl ?_
          obtain ⟨x_a22, x_n23, x_c24, hc25, h⟩ := h
          refine WQ_look (fun w => w.cell? (p15.add 1) = some (.slice x_a22 x_n23 x_c24)) rfl gd0 (fun w hc => (o_load Try.isAgg22 rfl hc)) hc25 rfl ?_
          refine WQ_val rfl gd0 (o_move (v := .slice data_a2 data_n3 data_c4) (by exact e1_10)) rfl ?_
          refine WQ_call rfl gd0 (o_call Try.call17 (argCons rfl argNil) _) rfl (h.mono ?_)
          rintro _ w26 ⟨x_a27, x_n28, x_c29, rfl, hh30, h⟩
          refine ⟨⟨trivial, fun _ => hh30⟩, ?_⟩
          have h := New.out h
          obtain ⟨hh33, h⟩ := h
          refine WQ_act rfl gd0 (o_buildSlice (e := 28) (ps := [(0, .slice x_a27 x_n28 x_c29)]) (cs := [.slice x_a27 x_n28 x_c29]) (partCons rfl partNil) (fun w => by kernel_rfl)) rfl (by exact ⟨trivial, fun _ => hh33⟩) ?_
          generalize hp31 : fresh w26 = p31 at h ⊢
          generalize hw32 : push w26 28 [.slice x_a27 x_n28 x_c29] = w32 at h ⊢
          try dsimp only at h
          obtain ⟨b_a34, b_n35, b_c36, w37, r38, h⟩ := h
          refine WQ_act rfl gd0 (o_append rfl rfl r38) rfl (by exact ⟨trivial, depT (by kernel_rfl)⟩) ?_
          refine WQ_val rfl gd0 (o_nilCheck (by exact (congrArg Value.pointer q16))) rfl ?_
          refine WQ_val rfl gd0 (o_fieldAddr0 Try.underlying49 rfl Try.sizeOf46 rfl rfl rfl) rfl ?_
          refine WQ_val rfl gd0 (o_fieldAddr 1 Try.underlying46 rfl Try.sizeOf22 rfl rfl rfl) rfl ?_
          obtain ⟨c40, h⟩ := h
          refine WQ_do rfl gd0 (o_store (v := .slice b_a34 b_n35 b_c36) Try.sizeOf22 rfl rfl rfl c40) (by exact ⟨trivial, depT (by kernel_rfl)⟩) ?_
          generalize hw39 : World.setCell w37 (p15.add 1) (.slice b_a34 b_n35 b_c36) = w39 at h ⊢
          try dsimp only at h
          refine WQ_nil ?_
          refine nrm ?_
          refine WC_seq ?_
          refine WC_region ?_
          refine WL_val gd0 ((o_assign (v := .int .i64 0) rfl) _) rfl ?_
          refine WL_nil ?_
          refine nrm ?_
          refine WC_ret ?_
          refine rtE ?_
          exact gv1 rfl rfl h

def F7_j2 (p21 : Addr) (p4 : Addr) (w106 : World) (k : Value → World → Prop) : Prop :=
  Does Try.prog 21 #[.pointer (some p21)] w106 (fun v w107 => ∃ (r108 : Int) (r_a109 : Option Addr) (r_n110 r_c111 : Nat), v = .tuple #[.int .i64 r108, .slice r_a109 r_n110 r_c111] ∧ ∃ (x112 : Int), w107.cell? (p21.add 12) = some (.int .i64 x112) ∧ Put w107 (p21.add 13) (.int .i64 x112) (fun w114 => ∃ (x116 : Int), w114.drew.cell? (p21.add 6) = some (.int .i64 x116) ∧ ∃ (x118 : Int), w114.drew.cell? (p21.add 7) = some (.int .i64 x118) ∧ PutAll w114.drew p4 [.bool false, .bool false, .int .i64 x116, .int .i64 x118, .int .i64 r108, .slice r_a109 r_n110 r_c111] (fun w120 => ∃ (r122 r123 : Bool) (r124 r125 r126 : Int) (r_a127 : Option Addr) (r_n128 r_c129 : Nat), Cells w120 p4 0 [.bool r122, .bool r123, .int .i64 r124, .int .i64 r125, .int .i64 r126, .slice r_a127 r_n128 r_c129] ∧ k (.tuple #[.agg #[.bool r122, .bool r123, .int .i64 r124, .int .i64 r125, .int .i64 r126, .slice r_a127 r_n128 r_c129], .bool true]) w120)))
def F7_j1 (p4 : Addr) (p21 : Addr) (t90 : Bool) (w91 : World) (k : Value → World → Prop) : Prop :=
  if t90 = true then
  PutAll w91 p4 [.bool false, .bool false, .int .i64 0, .int .i64 0, .int .i64 0, .slice none 0 0] (fun w93 => ∃ (r95 r96 : Bool) (r97 r98 r99 : Int) (r_a100 : Option Addr) (r_n101 r_c102 : Nat), Cells w93 p4 0 [.bool r95, .bool r96, .int .i64 r97, .int .i64 r98, .int .i64 r99, .slice r_a100 r_n101 r_c102] ∧ k (.tuple #[.agg #[.bool r95, .bool r96, .int .i64 r97, .int .i64 r98, .int .i64 r99, .slice r_a100 r_n101 r_c102], .bool false]) w93)
else
  Does Try.prog 19 #[.pointer (some p21)] w91 (fun v w131 => ∃ (x132 : Bool), v = .bool x132 ∧ if (!x132) = true then
    ∃ (x134 : Int), w131.drew.cell? (p21.add 12) = some (.int .i64 x134) ∧ ∃ (x136 : Int), w131.drew.cell? (p21.add 13) = some (.int .i64 x136) ∧ ∃ (x138 : Int), w131.drew.cell? (p21.add 8) = some (.int .i64 x138) ∧ if x134 < (IntKind.i64.wrap (x136 + x138)) then
      PutAll w131.drew p4 [.bool false, .bool false, .int .i64 0, .int .i64 0, .int .i64 0, .slice none 0 0] (fun w141 => ∃ (r143 r144 : Bool) (r145 r146 r147 : Int) (r_a148 : Option Addr) (r_n149 r_c150 : Nat), Cells w141 p4 0 [.bool r143, .bool r144, .int .i64 r145, .int .i64 r146, .int .i64 r147, .slice r_a148 r_n149 r_c150] ∧ k (.tuple #[.agg #[.bool r143, .bool r144, .int .i64 r145, .int .i64 r146, .int .i64 r147, .slice r_a148 r_n149 r_c150], .bool false]) w141)
    else
      ∃ (x152 : Int), w131.drew.drew.cell? (p21.add 14) = some (.int .i64 x152) ∧ ∃ (x154 : Int), w131.drew.drew.cell? (p21.add 9) = some (.int .i64 x154) ∧ if x152 = x154 then
        Put w131.drew.drew (p21.add 10) (.int .i64 4) (fun w157 => PutAll w157 p4 [.bool false, .bool false, .int .i64 0, .int .i64 0, .int .i64 0, .slice none 0 0] (fun w159 => ∃ (r161 r162 : Bool) (r163 r164 r165 : Int) (r_a166 : Option Addr) (r_n167 r_c168 : Nat), Cells w159 p4 0 [.bool r161, .bool r162, .int .i64 r163, .int .i64 r164, .int .i64 r165, .slice r_a166 r_n167 r_c168] ∧ k (.tuple #[.agg #[.bool r161, .bool r162, .int .i64 r163, .int .i64 r164, .int .i64 r165, .slice r_a166 r_n167 r_c168], .bool false]) w159))
      else
        ∃ (x170 : Int), w131.drew.drew.cell? (p21.add 14) = some (.int .i64 x170) ∧ Put w131.drew.drew (p21.add 14) (.int .i64 (IntKind.i64.wrap (x170 + 1))) (fun w172 => Does Try.prog 20 #[.pointer (some p21)] w172 (fun v w174 => v = .tuple #[] ∧ F7_j2 p21 p4 w174 k))
  else
    F7_j2 p21 p4 w131 k)
/-- (*spacecraft fop.Fop).Next -/
def F7 (f1 : Option Addr) (now2 : Int) (w3 : World) (k : Value → World → Prop) : Prop :=
  New w3 32 [.bool false, .bool false, .int .i64 0, .int .i64 0, .int .i64 0, .slice none 0 0] (fun p4 w5 => Does Try.prog 16 #[.pointer f1] w5 (fun v w6 => ∃ (x7 : Bool), v = .bool x7 ∧ if (!x7) = true then
  PutAll w6 p4 [.bool false, .bool false, .int .i64 0, .int .i64 0, .int .i64 0, .slice none 0 0] (fun w9 => ∃ (r11 r12 : Bool) (r13 r14 r15 : Int) (r_a16 : Option Addr) (r_n17 r_c18 : Nat), Cells w9 p4 0 [.bool r11, .bool r12, .int .i64 r13, .int .i64 r14, .int .i64 r15, .slice r_a16 r_n17 r_c18] ∧ k (.tuple #[.agg #[.bool r11, .bool r12, .int .i64 r13, .int .i64 r14, .int .i64 r15, .slice r_a16 r_n17 r_c18], .bool false]) w9)
else
  Does Try.prog 18 #[.pointer f1, .int .i64 now2] w6 (fun v w20 => v = .tuple #[] ∧ ∃ (p21 : Addr), f1 = some p21 ∧ ∃ (x_a23 : Option Addr) (x_n24 x_c25 : Nat), w20.cell? (p21.add 11) = some (.slice x_a23 x_n24 x_c25) ∧ if 0 < (x_n24 : Int) then
    ∃ (x_a28 : Option Addr) (x_n29 x_c30 : Nat), w20.cell? (p21.add 11) = some (.slice x_a28 x_n29 x_c30) ∧ ∃ (p34 : Addr), x_a28 = some p34 ∧ (0 : Int) ≤ 0 ∧ 0 < (x_n29 : Int) ∧ ∃ (x36 x37 : Bool) (x38 x39 x40 : Int) (x_a41 : Option Addr) (x_n42 x_c43 : Nat), Cells w20 (p34.add (((0 : Int).toNat) * 6)) 0 [.bool x36, .bool x37, .int .i64 x38, .int .i64 x39, .int .i64 x40, .slice x_a41 x_n42 x_c43] ∧ New w20 32 [.bool false, .bool false, .int .i64 0, .int .i64 0, .int .i64 0, .slice none 0 0] (fun p45 w46 => PutAll w46 p45 [.bool x36, .bool x37, .int .i64 x38, .int .i64 x39, .int .i64 x40, .slice x_a41 x_n42 x_c43] (fun w47 => ∃ (x_a49 : Option Addr) (x_n50 x_c51 : Nat), w47.cell? (p45.add 5) = some (.slice x_a49 x_n50 x_c51) ∧ Does Try.prog 17 #[.slice x_a49 x_n50 x_c51] w47 (fun v w53 => ∃ (x_a54 : Option Addr) (x_n55 x_c56 : Nat), v = .slice x_a54 x_n55 x_c56 ∧ Put w53 (p45.add 5) (.slice x_a54 x_n55 x_c56) (fun w57 => ∃ (x_a59 : Option Addr) (x_n60 x_c61 : Nat), w57.cell? (p21.add 11) = some (.slice x_a59 x_n60 x_c61) ∧ (0 : Int) ≤ 1 ∧ 1 ≤ (x_n60 : Int) ∧ Put w57 (p21.add 11) (.slice (cutA x_a59 x_c61 ((1 : Int).toNat) 6) (x_n60 - (1 : Int).toNat) (x_c61 - (1 : Int).toNat)) (fun w65 => ∃ (x67 x68 : Bool) (x69 x70 x71 : Int) (x_a72 : Option Addr) (x_n73 x_c74 : Nat), Cells w65 p45 0 [.bool x67, .bool x68, .int .i64 x69, .int .i64 x70, .int .i64 x71, .slice x_a72 x_n73 x_c74] ∧ PutAll w65 p4 [.bool x67, .bool x68, .int .i64 x69, .int .i64 x70, .int .i64 x71, .slice x_a72 x_n73 x_c74] (fun w76 => ∃ (r78 r79 : Bool) (r80 r81 r82 : Int) (r_a83 : Option Addr) (r_n84 r_c85 : Nat), Cells w76 p4 0 [.bool r78, .bool r79, .int .i64 r80, .int .i64 r81, .int .i64 r82, .slice r_a83 r_n84 r_c85] ∧ k (.tuple #[.agg #[.bool r78, .bool r79, .int .i64 r80, .int .i64 r81, .int .i64 r82, .slice r_a83 r_n84 r_c85], .bool true]) w76))))))
  else
    ∃ (x175 : Int), w20.cell? (p21.add 10) = some (.int .i64 x175) ∧ if x175 ≠ 1 then
      F7_j1 p4 p21 true w20 k
    else
      ∃ (x_a178 : Option Addr) (x_n179 x_c180 : Nat), w20.cell? (p21.add 1) = some (.slice x_a178 x_n179 x_c180) ∧ F7_j1 p4 p21 (decide ((x_n179 : Int) = 0)) w20 k)))
set_option maxRecDepth 100000 in
set_option maxHeartbeats 2000000 in
theorem w7 (f1 : Option Addr) (now2 : Int) (w3 : World) (k : Value → World → Prop) (h : F7 f1 now2 w3 k) : Does Try.prog 7 #[.pointer f1, .int .i64 now2] w3 k := by
  refine enter 125 Try.func7 rfl rfl rfl ?_
  intro ρ hρ
  have e0 := hρ 0 _ rfl
  have e1 := hρ 1 _ rfl
  unfold F7 at h
  refine WC_seq ?_
  refine WC_region ?_
  have h := New.out h
  refine WL_val gd0 (o_alloc (z := .agg #[.bool false, .bool false, .int .i64 0, .int .i64 0, .int .i64 0, .slice none 0 0]) (cs := [.bool false, .bool false, .int .i64 0, .int .i64 0, .int .i64 0, .slice none 0 0]) Try.zeroValue32 rfl) rfl ?_
  generalize hp4 : fresh w3 = p4 at h ⊢
  generalize hw5 : push w3 32 [.bool false, .bool false, .int .i64 0, .int .i64 0, .int .i64 0, .slice none 0 0] = w5 at h ⊢
  try dsimp only at h
  refine WL_val gd0 ((o_assign (v := .bool false) rfl) _) rfl ?_
  refine WL_nil ?_
  refine nrm ?_
  refine WC_seq ?_
  refine WC_seq ?_
  refine WC_region ?_
  refine WL_val gd0 ((o_move (v := .pointer f1) (by exact e0)) _) rfl ?_
  refine WL_call gd0 (o_call Try.call16 (argCons rfl argNil) _) rfl (h.mono ?_)
  rintro _ w6 ⟨x7, rfl, h⟩
  refine WL_val gd0 ((o_not rfl) _) rfl ?_
  refine WL_nil ?_
  refine nrm ?_
  refine WC_cond (t := (!x7)) rfl (fun hb8 => ?_) (fun hb8 => ?_)
  · rw [if_pos hb8] at h
    refine WC_seq ?_
    refine WC_region ?_
    refine WL_val gd0 ((o_build (ps := []) (v := .agg #[.bool false, .bool false, .int .i64 0, .int .i64 0, .int .i64 0, .slice none 0 0]) partNil (fun w => by kernel_rfl)) _) rfl ?_
    obtain ⟨c10, h⟩ := h
    refine WL_act gd0 (o_storeAgg (vs := [.bool false, .bool false, .int .i64 0, .int .i64 0, .int .i64 0, .slice none 0 0]) Try.sizeOf32 rfl rfl rfl c10) ?_
    generalize hw9 : setAll w6 p4 0 [.bool false, .bool false, .int .i64 0, .int .i64 0, .int .i64 0, .slice none 0 0] = w9 at h ⊢
    try dsimp only at h
    refine WL_val gd0 ((o_assign (v := .bool false) rfl) _) rfl ?_
    refine WL_nil ?_
    refine nrm ?_
    refine WC_ret ?_
    refine rtT ?_
    refine rtE ?_
    obtain ⟨r11, r12, r13, r14, r15, r_a16, r_n17, r_c18, hc19, h⟩ := h
    exact gvC1 (vs := [.bool r11, .bool r12, .int .i64 r13, .int .i64 r14, .int .i64 r15, .slice r_a16 r_n17 r_c18]) rfl Try.isAgg32 Try.sizeOf32 rfl hc19 rfl h
  · rw [if_neg (neT hb8)] at h
    refine WC_skip ?_
    refine nrm ?_
    refine WC_seq ?_
    refine WC_region ?_
    refine WL_val gd0 ((o_move (v := .pointer f1) (by exact e0)) _) rfl ?_
    refine WL_val gd0 ((o_move (v := .int .i64 now2) (by exact e1)) _) rfl ?_
    refine WL_call gd0 (o_call Try.call18 (argCons rfl (argCons rfl argNil)) _) rfl (h.mono ?_)
    rintro _ w20 ⟨rfl, h⟩
    refine WL_nil ?_
    refine nrm ?_
    refine WC_seq ?_
    refine WC_seq ?_
    refine WC_region ?_
    refine WL_val gd0 ((o_move (v := .pointer f1) (by exact e0)) _) rfl ?_
    obtain ⟨p21, q22, h⟩ := h
    refine WL_val gd0 ((o_nilCheck (by exact (congrArg Value.pointer q22))) _) rfl ?_
    refine WL_val gd0 ((o_fieldAddr 11 Try.underlying49 rfl Try.sizeOf47 rfl rfl rfl) _) rfl ?_
    obtain ⟨x_a23, x_n24, x_c25, hc26, h⟩ := h
    refine WL_val gd0 (o_load Try.isAgg47 rfl hc26) rfl ?_
    refine WL_val gd0 ((o_len Try.underlying47 rfl) _) rfl ?_
    refine WL_val gd0 ((o_gtr rfl rfl) _) rfl ?_
    refine WL_nil ?_
    refine nrm ?_
    refine WC_cond (t := (decide (0 < (x_n24 : Int)))) rfl (fun hb27 => ?_) (fun hb27 => ?_)
    · rw [if_pos (of_decide_eq_true hb27)] at h
      refine WC_seq ?_
      refine WC_region ?_
      refine WL_val gd0 ((o_move (v := .pointer f1) (by exact e0)) _) rfl ?_
      refine WL_val gd0 ((o_nilCheck (by exact (congrArg Value.pointer q22))) _) rfl ?_
      refine WL_val gd0 ((o_fieldAddr 11 Try.underlying49 rfl Try.sizeOf47 rfl rfl rfl) _) rfl ?_
      obtain ⟨x_a28, x_n29, x_c30, hc31, h⟩ := h
      refine WL_val gd0 (o_load Try.isAgg47 rfl hc31) rfl ?_
      obtain ⟨p34, q35, h⟩ := h
      obtain ⟨l32, u33, h⟩ := h
      refine WL_val gd0 ((o_indexAddr Try.underlying47 Try.sizeOf32 (by exact (congrArg (fun z => Value.slice z x_n29 x_c30) q35)) rfl l32 u33) _) rfl ?_
      obtain ⟨x36, x37, x38, x39, x40, x_a41, x_n42, x_c43, hc44, h⟩ := h
      refine WL_val gd0 (o_loadAgg (vs := [.bool x36, .bool x37, .int .i64 x38, .int .i64 x39, .int .i64 x40, .slice x_a41 x_n42 x_c43]) Try.isAgg32 Try.sizeOf32 rfl hc44) rfl ?_
      have h := New.out h
      refine WL_val gd0 (o_alloc (z := .agg #[.bool false, .bool false, .int .i64 0, .int .i64 0, .int .i64 0, .slice none 0 0]) (cs := [.bool false, .bool false, .int .i64 0, .int .i64 0, .int .i64 0, .slice none 0 0]) Try.zeroValue32 rfl) rfl ?_
      generalize hp45 : fresh w20 = p45 at h ⊢
      generalize hw46 : push w20 32 [.bool false, .bool false, .int .i64 0, .int .i64 0, .int .i64 0, .slice none 0 0] = w46 at h ⊢
      try dsimp only at h
      obtain ⟨c48, h⟩ := h
      refine WL_act gd0 (o_storeAgg (vs := [.bool x36, .bool x37, .int .i64 x38, .int .i64 x39, .int .i64 x40, .slice x_a41 x_n42 x_c43]) Try.sizeOf32 rfl rfl rfl c48) ?_
      generalize hw47 : setAll w46 p45 0 [.bool x36, .bool x37, .int .i64 x38, .int .i64 x39, .int .i64 x40, .slice x_a41 x_n42 x_c43] = w47 at h ⊢
      try dsimp only at h
      refine WL_nil ?_
      refine nrm ?_
      refine WC_seq ?_
      refine WC_region ?_
      refine WL_val gd0 ((o_fieldAddr 5 Try.underlying32 rfl Try.sizeOf28 rfl rfl rfl) _) rfl ?_
      obtain ⟨x_a49, x_n50, x_c51, hc52, h⟩ := h
      refine WL_val gd0 (o_load Try.isAgg28 rfl hc52) rfl ?_
      refine WL_call gd0 (o_call Try.call17 (argCons rfl argNil) _) rfl (h.mono ?_)
      rintro _ w53 ⟨x_a54, x_n55, x_c56, rfl, h⟩
      refine WL_val gd0 ((o_fieldAddr 5 Try.underlying32 rfl Try.sizeOf28 rfl rfl rfl) _) rfl ?_
      obtain ⟨c58, h⟩ := h
      refine WL_act gd0 (o_store (v := .slice x_a54 x_n55 x_c56) Try.sizeOf28 rfl rfl rfl c58) ?_
      generalize hw57 : World.setCell w53 (p45.add 5) (.slice x_a54 x_n55 x_c56) = w57 at h ⊢
      try dsimp only at h
      refine WL_nil ?_
      refine nrm ?_
      refine WC_seq ?_
      refine WC_region ?_
      refine WL_val gd0 ((o_move (v := .pointer f1) (by exact e0)) _) rfl ?_
      refine WL_val gd0 ((o_move (v := .pointer f1) (by exact e0)) _) rfl ?_
      refine WL_val gd0 ((o_nilCheck (by exact (congrArg Value.pointer q22))) _) rfl ?_
      refine WL_val gd0 ((o_fieldAddr 11 Try.underlying49 rfl Try.sizeOf47 rfl rfl rfl) _) rfl ?_
      obtain ⟨x_a59, x_n60, x_c61, hc62, h⟩ := h
      refine WL_val gd0 (o_load Try.isAgg47 rfl hc62) rfl ?_
      obtain ⟨c63, c64, h⟩ := h
      refine WL_val gd0 ((o_sliceL Try.underlying47 Try.sizeOf32 rfl rfl c63 c64) _) rfl ?_
      refine WL_val gd0 ((o_nilCheck (by exact (congrArg Value.pointer q22))) _) rfl ?_
      refine WL_val gd0 ((o_fieldAddr 11 Try.underlying49 rfl Try.sizeOf47 rfl rfl rfl) _) rfl ?_
      obtain ⟨c66, h⟩ := h
      refine WL_act gd0 (o_store (v := .slice (cutA x_a59 x_c61 ((1 : Int).toNat) 6) (x_n60 - (1 : Int).toNat) (x_c61 - (1 : Int).toNat)) Try.sizeOf47 rfl rfl rfl c66) ?_
      generalize hw65 : World.setCell w57 (p21.add 11) (.slice (cutA x_a59 x_c61 ((1 : Int).toNat) 6) (x_n60 - (1 : Int).toNat) (x_c61 - (1 : Int).toNat)) = w65 at h ⊢
      try dsimp only at h
      refine WL_nil ?_
      refine nrm ?_
      refine WC_seq ?_
      refine WC_region ?_
      obtain ⟨x67, x68, x69, x70, x71, x_a72, x_n73, x_c74, hc75, h⟩ := h
      refine WL_val gd0 (o_loadAgg (vs := [.bool x67, .bool x68, .int .i64 x69, .int .i64 x70, .int .i64 x71, .slice x_a72 x_n73 x_c74]) Try.isAgg32 Try.sizeOf32 rfl hc75) rfl ?_
      obtain ⟨c77, h⟩ := h
      refine WL_act gd0 (o_storeAgg (vs := [.bool x67, .bool x68, .int .i64 x69, .int .i64 x70, .int .i64 x71, .slice x_a72 x_n73 x_c74]) Try.sizeOf32 rfl rfl rfl c77) ?_
      generalize hw76 : setAll w65 p4 0 [.bool x67, .bool x68, .int .i64 x69, .int .i64 x70, .int .i64 x71, .slice x_a72 x_n73 x_c74] = w76 at h ⊢
      try dsimp only at h
      refine WL_val gd0 ((o_assign (v := .bool true) rfl) _) rfl ?_
      refine WL_nil ?_
      refine nrm ?_
      refine WC_ret ?_
      refine rtT ?_
      refine rtE ?_
      obtain ⟨r78, r79, r80, r81, r82, r_a83, r_n84, r_c85, hc86, h⟩ := h
      exact gvC1 (vs := [.bool r78, .bool r79, .int .i64 r80, .int .i64 r81, .int .i64 r82, .slice r_a83 r_n84 r_c85]) rfl Try.isAgg32 Try.sizeOf32 rfl hc86 rfl h
    · rw [if_neg (of_decide_eq_false hb27)] at h
      refine WC_skip ?_
      refine nrm ?_
      refine WC_seq ?_
      refine WC_cut (fun ρ w' => ∃ (t90 : Bool), ρ 54 = .bool t90 ∧ ρ 0 = .pointer f1 ∧ ρ 4 = .pointer (some p4) ∧ F7_j1 p4 p21 t90 w' k) ?_ ?_
      · refine WC_region ?_
        refine WL_val gd0 ((o_move (v := .pointer f1) (by exact e0)) _) rfl ?_
        refine WL_val gd0 ((o_nilCheck (by exact (congrArg Value.pointer q22))) _) rfl ?_
        refine WL_val gd0 ((o_fieldAddr 10 Try.underlying49 rfl Try.sizeOf3 rfl rfl rfl) _) rfl ?_
        obtain ⟨x175, hc176, h⟩ := h
        refine WL_val gd0 (o_load Try.isAgg3 rfl hc176) rfl ?_
        refine WL_val gd0 ((o_neq rfl rfl) _) rfl ?_
        refine WL_val gd0 ((o_move (v := .bool (decide (x175 ≠ 1))) rfl) _) rfl ?_
        refine bsplit (decide (x175 ≠ 1)) (fun hb177 => ?_) (fun hb177 => ?_)
        · rw [if_pos (of_decide_eq_true hb177)] at h
          refine WL_skip (gdN (b := (decide (x175 ≠ 1))) 46 rfl rfl hb177) rfl ?_
          refine WL_skip (gdN (b := (decide (x175 ≠ 1))) 46 rfl rfl hb177) rfl ?_
          refine WL_skip (gdN (b := (decide (x175 ≠ 1))) 46 rfl rfl hb177) rfl ?_
          refine WL_skip (gdN (b := (decide (x175 ≠ 1))) 46 rfl rfl hb177) rfl ?_
          refine WL_skip (gdN (b := (decide (x175 ≠ 1))) 46 rfl rfl hb177) rfl ?_
          refine WL_skip (gdN (b := (decide (x175 ≠ 1))) 46 rfl rfl hb177) rfl ?_
          refine WL_skip (gdN (b := (decide (x175 ≠ 1))) 46 rfl rfl hb177) rfl ?_
          refine WL_val gd0 ((o_pickT (v := .bool true) rfl hb177 rfl) _) rfl ?_
          refine WL_nil ?_
          refine nrm ?_
          exact ⟨_, rfl, e0, rfl, h⟩
        · rw [if_neg (of_decide_eq_false hb177)] at h
          refine WL_val (gdY (b := (decide (x175 ≠ 1))) 46 rfl rfl hb177) ((o_move (v := .pointer f1) (by exact e0)) _) rfl ?_
          refine WL_val (gdY (b := (decide (x175 ≠ 1))) 46 rfl rfl hb177) ((o_nilCheck (by exact (congrArg Value.pointer q22))) _) rfl ?_
          refine WL_val (gdY (b := (decide (x175 ≠ 1))) 46 rfl rfl hb177) ((o_fieldAddr0 Try.underlying49 rfl Try.sizeOf46 rfl rfl rfl) _) rfl ?_
          refine WL_val (gdY (b := (decide (x175 ≠ 1))) 46 rfl rfl hb177) ((o_fieldAddr 1 Try.underlying46 rfl Try.sizeOf22 rfl rfl rfl) _) rfl ?_
          obtain ⟨x_a178, x_n179, x_c180, hc181, h⟩ := h
          refine WL_val (gdY (b := (decide (x175 ≠ 1))) 46 rfl rfl hb177) (o_load Try.isAgg22 rfl hc181) rfl ?_
          refine WL_val (gdY (b := (decide (x175 ≠ 1))) 46 rfl rfl hb177) ((o_len Try.underlying22 rfl) _) rfl ?_
          refine WL_val (gdY (b := (decide (x175 ≠ 1))) 46 rfl rfl hb177) ((o_eql rfl rfl) _) rfl ?_
          refine WL_val gd0 ((o_pickF (v := .bool (decide ((x_n179 : Int) = 0))) rfl hb177 rfl) _) rfl ?_
          refine WL_nil ?_
          refine nrm ?_
          exact ⟨_, rfl, e0, rfl, h⟩
      · rintro ρ w91 ⟨t90, e54_89, e0_87, e4_88, h⟩
        unfold F7_j1 at h
        refine WC_cond (t := t90) (by exact e54_89) (fun hb92 => ?_) (fun hb92 => ?_)
        · rw [if_pos hb92] at h
          refine WC_seq ?_
          refine WC_region ?_
          refine WL_val gd0 ((o_build (ps := []) (v := .agg #[.bool false, .bool false, .int .i64 0, .int .i64 0, .int .i64 0, .slice none 0 0]) partNil (fun w => by kernel_rfl)) _) rfl ?_
          obtain ⟨c94, h⟩ := h
          refine WL_act gd0 (o_storeAgg (vs := [.bool false, .bool false, .int .i64 0, .int .i64 0, .int .i64 0, .slice none 0 0]) Try.sizeOf32 (by exact e4_88) rfl rfl c94) ?_
          generalize hw93 : setAll w91 p4 0 [.bool false, .bool false, .int .i64 0, .int .i64 0, .int .i64 0, .slice none 0 0] = w93 at h ⊢
          try dsimp only at h
          refine WL_val gd0 ((o_assign (v := .bool false) rfl) _) rfl ?_
          refine WL_nil ?_
          refine nrm ?_
          refine WC_ret ?_
          refine rtT ?_
          refine rtE ?_
          obtain ⟨r95, r96, r97, r98, r99, r_a100, r_n101, r_c102, hc103, h⟩ := h
          exact gvC1 (vs := [.bool r95, .bool r96, .int .i64 r97, .int .i64 r98, .int .i64 r99, .slice r_a100 r_n101 r_c102]) rfl Try.isAgg32 Try.sizeOf32 (by exact e4_88) hc103 rfl h
        · rw [if_neg (neT hb92)] at h
          refine WC_skip ?_
          refine nrm ?_
          refine WC_cut (fun ρ w' => ρ 0 = .pointer f1 ∧ ρ 4 = .pointer (some p4) ∧ F7_j2 p21 p4 w' k) ?_ ?_
          · refine WC_seq ?_
            refine WC_region ?_
            refine WL_val gd0 ((o_move (v := .pointer f1) (by exact e0_87)) _) rfl ?_
            refine WL_val gd0 ((o_nilCheck (by exact (congrArg Value.pointer q22))) _) rfl ?_
            refine WL_val gd0 ((o_fieldAddr0 Try.underlying49 rfl Try.sizeOf46 rfl rfl rfl) _) rfl ?_
            refine WL_call gd0 (o_call Try.call19 (argCons rfl argNil) _) rfl (h.mono ?_)
            rintro _ w131 ⟨x132, rfl, h⟩
            refine WL_val gd0 ((o_not rfl) _) rfl ?_
            refine WL_nil ?_
            refine nrm ?_
            refine WC_cond (t := (!x132)) rfl (fun hb133 => ?_) (fun hb133 => ?_)
            · rw [if_pos hb133] at h
              refine WC_seq ?_
              refine WC_seq ?_
              refine WC_draws [] (.look 0 (.look 1 (.look 2 (.look 3 (.look 4 (.look 5 (.look 6 (.look 7 (.look 8 (.look 9 (.look 10 (.look 11 (.look 12 (.look 13 .nil)))))))))))))) Try.mixed (by kernel_rfl) ?_
              refine WQ_val rfl gd0 (o_move (v := .pointer f1) (by exact e0_87)) rfl ?_
              refine WQ_val rfl gd0 (o_nilCheck (by exact (congrArg Value.pointer q22))) rfl ?_
              refine WQ_val rfl gd0 (o_fieldAddr 12 Try.underlying49 rfl Try.sizeOf3 rfl rfl rfl) rfl ?_
              obtain ⟨x134, hc135, h⟩ := h
              refine WQ_look (fun w => w.cell? (p21.add 12) = some (.int .i64 x134)) rfl gd0 (fun w hc => (o_load Try.isAgg3 rfl hc)) hc135 rfl ?_
              refine WQ_val rfl gd0 (o_move (v := .pointer f1) (by exact e0_87)) rfl ?_
              refine WQ_val rfl gd0 (o_nilCheck (by exact (congrArg Value.pointer q22))) rfl ?_
              refine WQ_val rfl gd0 (o_fieldAddr 13 Try.underlying49 rfl Try.sizeOf3 rfl rfl rfl) rfl ?_
              obtain ⟨x136, hc137, h⟩ := h
              refine WQ_look (fun w => w.cell? (p21.add 13) = some (.int .i64 x136)) rfl gd0 (fun w hc => (o_load Try.isAgg3 rfl hc)) hc137 rfl ?_
              refine WQ_val rfl gd0 (o_move (v := .pointer f1) (by exact e0_87)) rfl ?_
              refine WQ_val rfl gd0 (o_nilCheck (by exact (congrArg Value.pointer q22))) rfl ?_
              refine WQ_val rfl gd0 (o_fieldAddr 8 Try.underlying49 rfl Try.sizeOf3 rfl rfl rfl) rfl ?_
              obtain ⟨x138, hc139, h⟩ := h
              refine WQ_look (fun w => w.cell? (p21.add 8) = some (.int .i64 x138)) rfl gd0 (fun w hc => (o_load Try.isAgg3 rfl hc)) hc139 rfl ?_
              refine WQ_val rfl gd0 (o_add rfl rfl) rfl ?_
              refine WQ_val rfl gd0 (o_lss rfl rfl) rfl ?_
              refine WQ_nil ?_
              refine nrm ?_
              refine WC_cond (t := (decide (x134 < (IntKind.i64.wrap (x136 + x138))))) rfl (fun hb140 => ?_) (fun hb140 => ?_)
              · rw [if_pos (of_decide_eq_true hb140)] at h
                refine WC_seq ?_
                refine WC_region ?_
                refine WL_val gd0 ((o_build (ps := []) (v := .agg #[.bool false, .bool false, .int .i64 0, .int .i64 0, .int .i64 0, .slice none 0 0]) partNil (fun w => by kernel_rfl)) _) rfl ?_
                obtain ⟨c142, h⟩ := h
                refine WL_act gd0 (o_storeAgg (vs := [.bool false, .bool false, .int .i64 0, .int .i64 0, .int .i64 0, .slice none 0 0]) Try.sizeOf32 (by exact e4_88) rfl rfl c142) ?_
                generalize hw141 : setAll w131.drew p4 0 [.bool false, .bool false, .int .i64 0, .int .i64 0, .int .i64 0, .slice none 0 0] = w141 at h ⊢
                try dsimp only at h
                refine WL_val gd0 ((o_assign (v := .bool false) rfl) _) rfl ?_
                refine WL_nil ?_
                refine nrm ?_
                refine WC_ret ?_
                refine rtT ?_
                refine rtT ?_
                refine rtE ?_
                obtain ⟨r143, r144, r145, r146, r147, r_a148, r_n149, r_c150, hc151, h⟩ := h
                exact gvC1 (vs := [.bool r143, .bool r144, .int .i64 r145, .int .i64 r146, .int .i64 r147, .slice r_a148 r_n149 r_c150]) rfl Try.isAgg32 Try.sizeOf32 (by exact e4_88) hc151 rfl h
              · rw [if_neg (of_decide_eq_false hb140)] at h
                refine WC_skip ?_
                refine nrm ?_
                refine WC_seq ?_
                refine WC_seq ?_
                refine WC_draws [] (.look 0 (.look 1 (.look 2 (.look 3 (.look 4 (.look 5 (.look 6 (.look 7 (.look 8 .nil))))))))) Try.mixed (by kernel_rfl) ?_
                refine WQ_val rfl gd0 (o_move (v := .pointer f1) (by exact e0_87)) rfl ?_
                refine WQ_val rfl gd0 (o_nilCheck (by exact (congrArg Value.pointer q22))) rfl ?_
                refine WQ_val rfl gd0 (o_fieldAddr 14 Try.underlying49 rfl Try.sizeOf3 rfl rfl rfl) rfl ?_
                obtain ⟨x152, hc153, h⟩ := h
                refine WQ_look (fun w => w.cell? (p21.add 14) = some (.int .i64 x152)) rfl gd0 (fun w hc => (o_load Try.isAgg3 rfl hc)) hc153 rfl ?_
                refine WQ_val rfl gd0 (o_move (v := .pointer f1) (by exact e0_87)) rfl ?_
                refine WQ_val rfl gd0 (o_nilCheck (by exact (congrArg Value.pointer q22))) rfl ?_
                refine WQ_val rfl gd0 (o_fieldAddr 9 Try.underlying49 rfl Try.sizeOf3 rfl rfl rfl) rfl ?_
                obtain ⟨x154, hc155, h⟩ := h
                refine WQ_look (fun w => w.cell? (p21.add 9) = some (.int .i64 x154)) rfl gd0 (fun w hc => (o_load Try.isAgg3 rfl hc)) hc155 rfl ?_
                refine WQ_val rfl gd0 (o_eql rfl rfl) rfl ?_
                refine WQ_nil ?_
                refine nrm ?_
                refine WC_cond (t := (decide (x152 = x154))) rfl (fun hb156 => ?_) (fun hb156 => ?_)
                · rw [if_pos (of_decide_eq_true hb156)] at h
                  refine WC_seq ?_
                  refine WC_region ?_
                  refine WL_val gd0 ((o_move (v := .pointer f1) (by exact e0_87)) _) rfl ?_
                  refine WL_val gd0 ((o_nilCheck (by exact (congrArg Value.pointer q22))) _) rfl ?_
                  refine WL_val gd0 ((o_fieldAddr 10 Try.underlying49 rfl Try.sizeOf3 rfl rfl rfl) _) rfl ?_
                  obtain ⟨c158, h⟩ := h
                  refine WL_act gd0 (o_store (v := .int .i64 4) Try.sizeOf3 rfl rfl rfl c158) ?_
                  generalize hw157 : World.setCell w131.drew.drew (p21.add 10) (.int .i64 4) = w157 at h ⊢
                  try dsimp only at h
                  refine WL_nil ?_
                  refine nrm ?_
                  refine WC_seq ?_
                  refine WC_region ?_
                  refine WL_val gd0 ((o_build (ps := []) (v := .agg #[.bool false, .bool false, .int .i64 0, .int .i64 0, .int .i64 0, .slice none 0 0]) partNil (fun w => by kernel_rfl)) _) rfl ?_
                  obtain ⟨c160, h⟩ := h
                  refine WL_act gd0 (o_storeAgg (vs := [.bool false, .bool false, .int .i64 0, .int .i64 0, .int .i64 0, .slice none 0 0]) Try.sizeOf32 (by exact e4_88) rfl rfl c160) ?_
                  generalize hw159 : setAll w157 p4 0 [.bool false, .bool false, .int .i64 0, .int .i64 0, .int .i64 0, .slice none 0 0] = w159 at h ⊢
                  try dsimp only at h
                  refine WL_val gd0 ((o_assign (v := .bool false) rfl) _) rfl ?_
                  refine WL_nil ?_
                  refine nrm ?_
                  refine WC_ret ?_
                  refine rtT ?_
                  refine rtT ?_
                  refine rtE ?_
                  obtain ⟨r161, r162, r163, r164, r165, r_a166, r_n167, r_c168, hc169, h⟩ := h
                  exact gvC1 (vs := [.bool r161, .bool r162, .int .i64 r163, .int .i64 r164, .int .i64 r165, .slice r_a166 r_n167 r_c168]) rfl Try.isAgg32 Try.sizeOf32 (by exact e4_88) hc169 rfl h
                · rw [if_neg (of_decide_eq_false hb156)] at h
                  refine WC_skip ?_
                  refine nrm ?_
                  refine WC_seq ?_
                  refine WC_region ?_
                  refine WL_val gd0 ((o_move (v := .pointer f1) (by exact e0_87)) _) rfl ?_
                  refine WL_val gd0 ((o_nilCheck (by exact (congrArg Value.pointer q22))) _) rfl ?_
                  refine WL_val gd0 ((o_fieldAddr 14 Try.underlying49 rfl Try.sizeOf3 rfl rfl rfl) _) rfl ?_
                  obtain ⟨x170, hc171, h⟩ := h
                  refine WL_val gd0 (o_load Try.isAgg3 rfl hc171) rfl ?_
                  refine WL_val gd0 ((o_add rfl rfl) _) rfl ?_
                  refine WL_val gd0 ((o_nilCheck (by exact (congrArg Value.pointer q22))) _) rfl ?_
                  refine WL_val gd0 ((o_fieldAddr 14 Try.underlying49 rfl Try.sizeOf3 rfl rfl rfl) _) rfl ?_
                  obtain ⟨c173, h⟩ := h
                  refine WL_act gd0 (o_store (v := .int .i64 (IntKind.i64.wrap (x170 + 1))) Try.sizeOf3 rfl rfl rfl c173) ?_
                  generalize hw172 : World.setCell w131.drew.drew (p21.add 14) (.int .i64 (IntKind.i64.wrap (x170 + 1))) = w172 at h ⊢
                  try dsimp only at h
                  refine WL_nil ?_
                  refine nrm ?_
                  refine WC_region ?_
                  refine WL_val gd0 ((o_move (v := .pointer f1) (by exact e0_87)) _) rfl ?_
                  refine WL_val gd0 ((o_nilCheck (by exact (congrArg Value.pointer q22))) _) rfl ?_
                  refine WL_val gd0 ((o_fieldAddr0 Try.underlying49 rfl Try.sizeOf46 rfl rfl rfl) _) rfl ?_
                  refine WL_call gd0 (o_call Try.call20 (argCons rfl argNil) _) rfl (h.mono ?_)
                  rintro _ w174 ⟨rfl, h⟩
                  refine WL_nil ?_
                  refine nrm ?_
                  exact ⟨e0_87, e4_88, h⟩
            · rw [if_neg (neT hb133)] at h
              refine WC_skip ?_
              refine nrm ?_
              exact ⟨e0_87, e4_88, h⟩
          · rintro ρ w106 ⟨e0_104, e4_105, h⟩
            unfold F7_j2 at h
            refine WC_seq ?_
            refine WC_region ?_
            refine WL_val gd0 ((o_move (v := .pointer f1) (by exact e0_104)) _) rfl ?_
            refine WL_val gd0 ((o_nilCheck (by exact (congrArg Value.pointer q22))) _) rfl ?_
            refine WL_val gd0 ((o_fieldAddr0 Try.underlying49 rfl Try.sizeOf46 rfl rfl rfl) _) rfl ?_
            refine WL_call gd0 (o_call Try.call21 (argCons rfl argNil) _) rfl (h.mono ?_)
            rintro _ w107 ⟨r108, r_a109, r_n110, r_c111, rfl, h⟩
            refine WL_val gd0 ((o_move (v := .tuple #[.int .i64 r108, .slice r_a109 r_n110 r_c111]) rfl) _) rfl ?_
            refine WL_val gd0 ((o_extract (vs := [.int .i64 r108, .slice r_a109 r_n110 r_c111]) (r := .int .i64 r108) rfl rfl) _) rfl ?_
            refine WL_val gd0 ((o_extract (vs := [.int .i64 r108, .slice r_a109 r_n110 r_c111]) (r := .slice r_a109 r_n110 r_c111) rfl rfl) _) rfl ?_
            refine WL_val gd0 ((o_assign (v := .int .i64 r108) rfl) _) rfl ?_
            refine WL_val gd0 ((o_assign (v := .slice r_a109 r_n110 r_c111) rfl) _) rfl ?_
            refine WL_nil ?_
            refine nrm ?_
            refine WC_seq ?_
            refine WC_region ?_
            refine WL_val gd0 ((o_move (v := .pointer f1) (by exact e0_104)) _) rfl ?_
            refine WL_val gd0 ((o_move (v := .pointer f1) (by exact e0_104)) _) rfl ?_
            refine WL_val gd0 ((o_nilCheck (by exact (congrArg Value.pointer q22))) _) rfl ?_
            refine WL_val gd0 ((o_fieldAddr 12 Try.underlying49 rfl Try.sizeOf3 rfl rfl rfl) _) rfl ?_
            obtain ⟨x112, hc113, h⟩ := h
            refine WL_val gd0 (o_load Try.isAgg3 rfl hc113) rfl ?_
            refine WL_val gd0 ((o_nilCheck (by exact (congrArg Value.pointer q22))) _) rfl ?_
            refine WL_val gd0 ((o_fieldAddr 13 Try.underlying49 rfl Try.sizeOf3 rfl rfl rfl) _) rfl ?_
            obtain ⟨c115, h⟩ := h
            refine WL_act gd0 (o_store (v := .int .i64 x112) Try.sizeOf3 rfl rfl rfl c115) ?_
            generalize hw114 : World.setCell w107 (p21.add 13) (.int .i64 x112) = w114 at h ⊢
            try dsimp only at h
            refine WL_nil ?_
            refine nrm ?_
            refine WC_seq ?_
            refine WC_draws [11] (.look 0 (.look 1 (.look 2 (.look 3 (.look 4 (.look 5 (.look 6 (.look 7 (.look 8 (.look 9 (.look 10 (.act 11 (.look 12 .nil))))))))))))) Try.mixed (by kernel_rfl) ?_
            refine WQ_val rfl gd0 (o_move (v := .pointer f1) (by exact e0_104)) rfl ?_
            refine WQ_val rfl gd0 (o_nilCheck (by exact (congrArg Value.pointer q22))) rfl ?_
            refine WQ_val rfl gd0 (o_fieldAddr 6 Try.underlying49 rfl Try.sizeOf3 rfl rfl rfl) rfl ?_
            obtain ⟨x116, hc117, h⟩ := h
            refine WQ_look (fun w => w.cell? (p21.add 6) = some (.int .i64 x116)) rfl gd0 (fun w hc => (o_load Try.isAgg3 rfl hc)) hc117 rfl ?_
            refine WQ_val rfl gd0 (o_move (v := .pointer f1) (by exact e0_104)) rfl ?_
            refine WQ_val rfl gd0 (o_nilCheck (by exact (congrArg Value.pointer q22))) rfl ?_
            refine WQ_val rfl gd0 (o_fieldAddr 7 Try.underlying49 rfl Try.sizeOf3 rfl rfl rfl) rfl ?_
            obtain ⟨x118, hc119, h⟩ := h
            refine WQ_look (fun w => w.cell? (p21.add 7) = some (.int .i64 x118)) rfl gd0 (fun w hc => (o_load Try.isAgg3 rfl hc)) hc119 rfl ?_
            refine WQ_val rfl gd0 (o_move (v := .int .i64 r108) rfl) rfl ?_
            refine WQ_val rfl gd0 (o_move (v := .slice r_a109 r_n110 r_c111) rfl) rfl ?_
            refine WQ_val rfl gd0 (o_build (ps := [(2, .int .i64 x116), (3, .int .i64 x118), (4, .int .i64 r108), (5, .slice r_a109 r_n110 r_c111)]) (v := .agg #[.bool false, .bool false, .int .i64 x116, .int .i64 x118, .int .i64 r108, .slice r_a109 r_n110 r_c111]) (partCons rfl (partCons rfl (partCons rfl (partCons rfl partNil)))) (fun w => by kernel_rfl)) rfl ?_
            obtain ⟨c121, h⟩ := h
            refine WQ_do rfl gd0 (o_storeAgg (vs := [.bool false, .bool false, .int .i64 x116, .int .i64 x118, .int .i64 r108, .slice r_a109 r_n110 r_c111]) Try.sizeOf32 (by exact e4_105) rfl rfl c121) (by exact ⟨⟨trivial, depT (by kernel_rfl)⟩, depT (by kernel_rfl)⟩) ?_
            generalize hw120 : setAll w114.drew p4 0 [.bool false, .bool false, .int .i64 x116, .int .i64 x118, .int .i64 r108, .slice r_a109 r_n110 r_c111] = w120 at h ⊢
            try dsimp only at h
            refine WQ_val rfl gd0 (o_assign (v := .bool true) rfl) rfl ?_
            refine WQ_nil ?_
            refine nrm ?_
            refine WC_ret ?_
            refine rtE ?_
            obtain ⟨r122, r123, r124, r125, r126, r_a127, r_n128, r_c129, hc130, h⟩ := h
            exact gvC1 (vs := [.bool r122, .bool r123, .int .i64 r124, .int .i64 r125, .int .i64 r126, .slice r_a127 r_n128 r_c129]) rfl Try.isAgg32 Try.sizeOf32 (by exact e4_105) hc130 rfl h

/-- spacecraft spacecrafttop.has -/
def F8 (l_a1 : Option Addr) (l_n2 : Nat) (l_c3 : Nat) (i4 : Int) (w5 : World) (k : Value → World → Prop) : Prop :=
  if 0 ≤ i4 then
  if i4 < (l_n2 : Int) then
    ∃ (p10 : Addr), l_a1 = some p10 ∧ (0 : Int) ≤ i4 ∧ i4 < (l_n2 : Int) ∧ ∃ (x12 : Bool), w5.cell? (p10.add i4.toNat) = some (.bool x12) ∧ k (.bool x12) w5
  else
    k (.bool false) w5
else
  k (.bool false) w5
set_option maxRecDepth 100000 in
set_option maxHeartbeats 2000000 in
theorem w8 (l_a1 : Option Addr) (l_n2 : Nat) (l_c3 : Nat) (i4 : Int) (w5 : World) (k : Value → World → Prop) (h : F8 l_a1 l_n2 l_c3 i4 w5 k) : Does Try.prog 8 #[.slice l_a1 l_n2 l_c3, .int .i64 i4] w5 k := by
  refine enter 19 Try.func8 rfl rfl rfl ?_
  intro ρ hρ
  have e0 := hρ 0 _ rfl
  have e1 := hρ 1 _ rfl
  unfold F8 at h
  refine WC_seq ?_
  refine WC_region ?_
  refine WL_val gd0 ((o_assign (v := .bool false) rfl) _) rfl ?_
  refine WL_nil ?_
  refine nrm ?_
  refine WC_seq ?_
  refine WC_region ?_
  refine WL_val gd0 ((o_move (v := .int .i64 i4) (by exact e1)) _) rfl ?_
  refine WL_val gd0 ((o_geq rfl rfl) _) rfl ?_
  refine WL_val gd0 ((o_move (v := .bool (decide (0 ≤ i4))) rfl) _) rfl ?_
  refine bsplit (decide (0 ≤ i4)) (fun hb6 => ?_) (fun hb6 => ?_)
  · rw [if_pos (of_decide_eq_true hb6)] at h
    refine WL_val (gdY (b := (decide (0 ≤ i4))) 7 rfl rfl hb6) ((o_move (v := .int .i64 i4) (by exact e1)) _) rfl ?_
    refine WL_val (gdY (b := (decide (0 ≤ i4))) 7 rfl rfl hb6) ((o_move (v := .slice l_a1 l_n2 l_c3) (by exact e0)) _) rfl ?_
    refine WL_val (gdY (b := (decide (0 ≤ i4))) 7 rfl rfl hb6) ((o_len Try.underlying23 rfl) _) rfl ?_
    refine WL_val (gdY (b := (decide (0 ≤ i4))) 7 rfl rfl hb6) ((o_lss rfl rfl) _) rfl ?_
    refine WL_val gd0 ((o_pickT (v := .bool (decide (i4 < (l_n2 : Int)))) rfl hb6 rfl) _) rfl ?_
    refine WL_val gd0 ((o_move (v := .bool (decide (i4 < (l_n2 : Int)))) rfl) _) rfl ?_
    refine bsplit (decide (i4 < (l_n2 : Int))) (fun hb7 => ?_) (fun hb7 => ?_)
    · rw [if_pos (of_decide_eq_true hb7)] at h
      refine WL_val (gdY (b := (decide (i4 < (l_n2 : Int)))) 13 rfl rfl hb7) ((o_move (v := .slice l_a1 l_n2 l_c3) (by exact e0)) _) rfl ?_
      refine WL_val (gdY (b := (decide (i4 < (l_n2 : Int)))) 13 rfl rfl hb7) ((o_move (v := .int .i64 i4) (by exact e1)) _) rfl ?_
      obtain ⟨p10, q11, h⟩ := h
      obtain ⟨l8, u9, h⟩ := h
      refine WL_val (gdY (b := (decide (i4 < (l_n2 : Int)))) 13 rfl rfl hb7) ((o_indexAddr1 Try.underlying23 Try.sizeOf4 (by exact (congrArg (fun z => Value.slice z l_n2 l_c3) q11)) rfl l8 u9) _) rfl ?_
      obtain ⟨x12, hc13, h⟩ := h
      refine WL_val (gdY (b := (decide (i4 < (l_n2 : Int)))) 13 rfl rfl hb7) (o_load Try.isAgg4 rfl hc13) rfl ?_
      refine WL_val gd0 ((o_pickT (v := .bool x12) rfl hb7 rfl) _) rfl ?_
      refine WL_val gd0 ((o_assign (v := .bool x12) rfl) _) rfl ?_
      refine WL_nil ?_
      refine nrm ?_
      refine WC_ret ?_
      refine rtE ?_
      exact gv1 rfl rfl h
    · rw [if_neg (of_decide_eq_false hb7)] at h
      refine WL_skip (gdN (b := (decide (i4 < (l_n2 : Int)))) 13 rfl rfl hb7) rfl ?_
      refine WL_skip (gdN (b := (decide (i4 < (l_n2 : Int)))) 13 rfl rfl hb7) rfl ?_
      refine WL_skip (gdN (b := (decide (i4 < (l_n2 : Int)))) 13 rfl rfl hb7) rfl ?_
      refine WL_skip (gdN (b := (decide (i4 < (l_n2 : Int)))) 13 rfl rfl hb7) rfl ?_
      refine WL_val gd0 ((o_pickF (v := .bool false) rfl hb7 rfl) _) rfl ?_
      refine WL_val gd0 ((o_assign (v := .bool false) rfl) _) rfl ?_
      refine WL_nil ?_
      refine nrm ?_
      refine WC_ret ?_
      refine rtE ?_
      exact gv1 rfl rfl h
  · rw [if_neg (of_decide_eq_false hb6)] at h
    refine WL_skip (gdN (b := (decide (0 ≤ i4))) 7 rfl rfl hb6) rfl ?_
    refine WL_skip (gdN (b := (decide (0 ≤ i4))) 7 rfl rfl hb6) rfl ?_
    refine WL_skip (gdN (b := (decide (0 ≤ i4))) 7 rfl rfl hb6) rfl ?_
    refine WL_skip (gdN (b := (decide (0 ≤ i4))) 7 rfl rfl hb6) rfl ?_
    refine WL_val gd0 ((o_pickF (v := .bool false) rfl hb6 rfl) _) rfl ?_
    refine WL_val gd0 ((o_move (v := .bool false) rfl) _) rfl ?_
    refine WL_skip (gdN (b := false) 13 rfl rfl rfl) rfl ?_
    refine WL_skip (gdN (b := false) 13 rfl rfl rfl) rfl ?_
    refine WL_skip (gdN (b := false) 13 rfl rfl rfl) rfl ?_
    refine WL_skip (gdN (b := false) 13 rfl rfl rfl) rfl ?_
    refine WL_val gd0 ((o_pickF (v := .bool false) rfl rfl rfl) _) rfl ?_
    refine WL_val gd0 ((o_assign (v := .bool false) rfl) _) rfl ?_
    refine WL_nil ?_
    refine nrm ?_
    refine WC_ret ?_
    refine rtE ?_
    exact gv1 rfl rfl h

def F9_j2 (p12 : Addr) (verdict23 : Int) (w24 : World) (k : Value → World → Prop) : Prop :=
  if verdict23 ≠ 1 then
  k (.tuple #[.slice none 0 0, .int .i64 verdict23]) w24
else
  ∃ (x_a26 : Option Addr) (x_n27 x_c28 : Nat), w24.cell? (p12.add 5) = some (.slice x_a26 x_n27 x_c28) ∧ Does Try.prog 27 #[.slice x_a26 x_n27 x_c28] w24 (fun v w30 => ∃ (t_a31 : Option Addr) (t_n32 t_c33 : Nat), v = .slice t_a31 t_n32 t_c33 ∧ k (.tuple #[.slice t_a31 t_n32 t_c33, .int .i64 1]) w30)
def F9_j1 (p12 : Addr) (f1 : Option Addr) (room10 : Bool) (t18 : Bool) (w19 : World) (k : Value → World → Prop) : Prop :=
  if t18 = true then
  k (.tuple #[.slice none 0 0, .int .i64 0]) w19
else
  ∃ (t34 : Bool), w19.cell? (p12.add 1) = some (.bool t34) ∧ if t34 = true then
    ∃ (x37 x38 : Bool) (x39 x40 x41 : Int) (x_a42 : Option Addr) (x_n43 x_c44 : Nat), Cells w19 p12 0 [.bool x37, .bool x38, .int .i64 x39, .int .i64 x40, .int .i64 x41, .slice x_a42 x_n43 x_c44] ∧ Does Try.prog 24 #[.pointer f1, .agg #[.bool x37, .bool x38, .int .i64 x39, .int .i64 x40, .int .i64 x41, .slice x_a42 x_n43 x_c44]] w19 (fun v w46 => ∃ (verdict47 : Int), v = .int .i64 verdict47 ∧ F9_j2 p12 verdict47 w46 k)
  else
    ∃ (t48 : Bool), w19.cell? p12 = some (.bool t48) ∧ if t48 = true then
      Does Try.prog 25 #[.pointer f1] w19 (fun v w51 => v = .tuple #[] ∧ F9_j2 p12 1 w51 k)
    else
      ∃ (x52 : Int), w19.cell? (p12.add 4) = some (.int .i64 x52) ∧ Does Try.prog 26 #[.pointer f1, .int .i64 x52, .bool room10] w19 (fun v w54 => ∃ (verdict55 : Int), v = .int .i64 verdict55 ∧ F9_j2 p12 verdict55 w54 k)
/-- (*spacecraft farm.Farm).Take -/
def F9 (f1 : Option Addr) (x2 : Bool) (x3 : Bool) (x4 : Int) (x5 : Int) (x6 : Int) (x_a7 : Option Addr) (x_n8 : Nat) (x_c9 : Nat) (room10 : Bool) (w11 : World) (k : Value → World → Prop) : Prop :=
  New w11 32 [.bool x2, .bool x3, .int .i64 x4, .int .i64 x5, .int .i64 x6, .slice x_a7 x_n8 x_c9] (fun p12 w13 => Does Try.prog 22 #[.pointer f1] w13.drew (fun v w56 => ∃ (x57 : Bool), v = .bool x57 ∧ if x57 = true then
  F9_j1 p12 f1 room10 true w56 k
else
  ∃ (x59 x60 : Bool) (x61 x62 x63 : Int) (x_a64 : Option Addr) (x_n65 x_c66 : Nat), Cells w56 p12 0 [.bool x59, .bool x60, .int .i64 x61, .int .i64 x62, .int .i64 x63, .slice x_a64 x_n65 x_c66] ∧ Does Try.prog 23 #[.agg #[.bool x59, .bool x60, .int .i64 x61, .int .i64 x62, .int .i64 x63, .slice x_a64 x_n65 x_c66]] w56 (fun v w68 => ∃ (x69 : Bool), v = .bool x69 ∧ if (!x69) = true then
    F9_j1 p12 f1 room10 true w68 k
  else
    ∃ (x71 : Int), w68.cell? (p12.add 2) = some (.int .i64 x71) ∧ ∃ (p73 : Addr), f1 = some p73 ∧ ∃ (x75 : Int), w68.cell? p73 = some (.int .i64 x75) ∧ if x71 ≠ x75 then
      F9_j1 p12 f1 room10 true w68 k
    else
      ∃ (x78 : Int), w68.cell? (p12.add 3) = some (.int .i64 x78) ∧ ∃ (x80 : Int), w68.cell? (p73.add 2) = some (.int .i64 x80) ∧ F9_j1 p12 f1 room10 (decide (x78 ≠ x80)) w68 k)))
set_option maxRecDepth 100000 in
set_option maxHeartbeats 2000000 in
theorem w9 (f1 : Option Addr) (x2 : Bool) (x3 : Bool) (x4 : Int) (x5 : Int) (x6 : Int) (x_a7 : Option Addr) (x_n8 : Nat) (x_c9 : Nat) (room10 : Bool) (w11 : World) (k : Value → World → Prop) (h : F9 f1 x2 x3 x4 x5 x6 x_a7 x_n8 x_c9 room10 w11 k) : Does Try.prog 9 #[.pointer f1, .agg #[.bool x2, .bool x3, .int .i64 x4, .int .i64 x5, .int .i64 x6, .slice x_a7 x_n8 x_c9], .bool room10] w11 k := by
  refine enter 57 Try.func9 rfl rfl rfl ?_
  intro ρ hρ
  have e0 := hρ 0 _ rfl
  have e1 := hρ 1 _ rfl
  have e2 := hρ 2 _ rfl
  unfold F9 at h
  refine WC_seq ?_
  refine WC_region ?_
  have h := New.out h
  refine WL_val gd0 (o_box (v := .agg #[.bool x2, .bool x3, .int .i64 x4, .int .i64 x5, .int .i64 x6, .slice x_a7 x_n8 x_c9]) (cs := [.bool x2, .bool x3, .int .i64 x4, .int .i64 x5, .int .i64 x6, .slice x_a7 x_n8 x_c9]) (by exact e1) rfl) rfl ?_
  generalize hp12 : fresh w11 = p12 at h ⊢
  generalize hw13 : push w11 32 [.bool x2, .bool x3, .int .i64 x4, .int .i64 x5, .int .i64 x6, .slice x_a7 x_n8 x_c9] = w13 at h ⊢
  try dsimp only at h
  refine WL_val gd0 ((o_assign (v := .slice none 0 0) rfl) _) rfl ?_
  refine WL_val gd0 ((o_assign (v := .int .i64 0) rfl) _) rfl ?_
  refine WL_nil ?_
  refine nrm ?_
  refine WC_seq ?_
  refine WC_cut (fun ρ w' => ∃ (t18 : Bool), ρ 34 = .bool t18 ∧ ρ 0 = .pointer f1 ∧ ρ 2 = .bool room10 ∧ ρ 4 = .pointer (some p12) ∧ F9_j1 p12 f1 room10 t18 w' k) ?_ ?_
  · refine WC_draws [1, 4] (.look 0 (.act 1 (.look 2 (.look 3 (.act 4 (.look 5 (.look 6 (.look 7 (.look 8 (.look 9 (.look 10 (.look 11 (.look 12 (.look 13 (.look 14 (.look 15 (.look 16 (.look 17 (.look 18 (.look 19 (.look 20 (.look 21 (.look 22 (.look 23 (.look 24 (.look 25 .nil)))))))))))))))))))))))))) Try.mixed (by kernel_rfl) ?_
    refine WQ_val rfl gd0 (o_move (v := .pointer f1) (by exact e0)) rfl ?_
    refine WQ_call rfl gd0 (o_call Try.call22 (argCons rfl argNil) _) rfl (h.mono ?_)
    rintro _ w56 ⟨x57, rfl, h⟩
    refine ⟨trivial, ?_⟩
    refine WQ_val rfl gd0 (o_move (v := .bool x57) rfl) rfl ?_
    refine bsplit x57 (fun hb58 => ?_) (fun hb58 => ?_)
    · rw [if_pos hb58] at h
      refine WQ_skip rfl (gdN (b := x57) 11 rfl rfl hb58) rfl ?_
      refine WQ_passAct rfl (gdN (b := x57) 11 rfl rfl hb58) rfl (by exact trivial) ?_
      refine WQ_skip rfl (gdN (b := x57) 11 rfl rfl hb58) rfl ?_
      refine WQ_val rfl gd0 (o_pickT (v := .bool true) rfl hb58 rfl) rfl ?_
      refine WQ_val rfl gd0 (o_move (v := .bool true) rfl) rfl ?_
      refine WQ_skip rfl (gdN (b := true) 16 rfl rfl rfl) rfl ?_
      refine WQ_skip rfl (gdN (b := true) 16 rfl rfl rfl) rfl ?_
      refine WQ_skip rfl (gdN (b := true) 16 rfl rfl rfl) rfl ?_
      refine WQ_skip rfl (gdN (b := true) 16 rfl rfl rfl) rfl ?_
      refine WQ_skip rfl (gdN (b := true) 16 rfl rfl rfl) rfl ?_
      refine WQ_skip rfl (gdN (b := true) 16 rfl rfl rfl) rfl ?_
      refine WQ_skip rfl (gdN (b := true) 16 rfl rfl rfl) rfl ?_
      refine WQ_val rfl gd0 (o_pickT (v := .bool true) rfl rfl rfl) rfl ?_
      refine WQ_val rfl gd0 (o_move (v := .bool true) rfl) rfl ?_
      refine WQ_skip rfl (gdN (b := true) 25 rfl rfl rfl) rfl ?_
      refine WQ_skip rfl (gdN (b := true) 25 rfl rfl rfl) rfl ?_
      refine WQ_skip rfl (gdN (b := true) 25 rfl rfl rfl) rfl ?_
      refine WQ_skip rfl (gdN (b := true) 25 rfl rfl rfl) rfl ?_
      refine WQ_skip rfl (gdN (b := true) 25 rfl rfl rfl) rfl ?_
      refine WQ_skip rfl (gdN (b := true) 25 rfl rfl rfl) rfl ?_
      refine WQ_skip rfl (gdN (b := true) 25 rfl rfl rfl) rfl ?_
      refine WQ_skip rfl (gdN (b := true) 25 rfl rfl rfl) rfl ?_
      refine WQ_val rfl gd0 (o_pickT (v := .bool true) rfl rfl rfl) rfl ?_
      refine WQ_nil ?_
      refine nrm ?_
      exact ⟨_, rfl, e0, e2, rfl, h⟩
    · rw [if_neg (neT hb58)] at h
      obtain ⟨x59, x60, x61, x62, x63, x_a64, x_n65, x_c66, hc67, h⟩ := h
      refine WQ_look (fun w => Cells w p12 0 [.bool x59, .bool x60, .int .i64 x61, .int .i64 x62, .int .i64 x63, .slice x_a64 x_n65 x_c66]) rfl (gdY (b := x57) 11 rfl rfl hb58) (fun w hc => (o_loadAgg (vs := [.bool x59, .bool x60, .int .i64 x61, .int .i64 x62, .int .i64 x63, .slice x_a64 x_n65 x_c66]) Try.isAgg32 Try.sizeOf32 rfl hc)) hc67 rfl ?_
      refine WQ_call rfl (gdY (b := x57) 11 rfl rfl hb58) (o_call Try.call23 (argCons rfl argNil) _) rfl (h.mono ?_)
      rintro _ w68 ⟨x69, rfl, h⟩
      refine ⟨⟨trivial, depT (by kernel_rfl)⟩, ?_⟩
      refine WQ_val rfl (gdY (b := x57) 11 rfl rfl hb58) (o_not rfl) rfl ?_
      refine WQ_val rfl gd0 (o_pickF (v := .bool (!x69)) rfl hb58 rfl) rfl ?_
      refine WQ_val rfl gd0 (o_move (v := .bool (!x69)) rfl) rfl ?_
      refine bsplit (!x69) (fun hb70 => ?_) (fun hb70 => ?_)
      · rw [if_pos hb70] at h
        refine WQ_skip rfl (gdN (b := (!x69)) 16 rfl rfl hb70) rfl ?_
        refine WQ_skip rfl (gdN (b := (!x69)) 16 rfl rfl hb70) rfl ?_
        refine WQ_skip rfl (gdN (b := (!x69)) 16 rfl rfl hb70) rfl ?_
        refine WQ_skip rfl (gdN (b := (!x69)) 16 rfl rfl hb70) rfl ?_
        refine WQ_skip rfl (gdN (b := (!x69)) 16 rfl rfl hb70) rfl ?_
        refine WQ_skip rfl (gdN (b := (!x69)) 16 rfl rfl hb70) rfl ?_
        refine WQ_skip rfl (gdN (b := (!x69)) 16 rfl rfl hb70) rfl ?_
        refine WQ_val rfl gd0 (o_pickT (v := .bool true) rfl hb70 rfl) rfl ?_
        refine WQ_val rfl gd0 (o_move (v := .bool true) rfl) rfl ?_
        refine WQ_skip rfl (gdN (b := true) 25 rfl rfl rfl) rfl ?_
        refine WQ_skip rfl (gdN (b := true) 25 rfl rfl rfl) rfl ?_
        refine WQ_skip rfl (gdN (b := true) 25 rfl rfl rfl) rfl ?_
        refine WQ_skip rfl (gdN (b := true) 25 rfl rfl rfl) rfl ?_
        refine WQ_skip rfl (gdN (b := true) 25 rfl rfl rfl) rfl ?_
        refine WQ_skip rfl (gdN (b := true) 25 rfl rfl rfl) rfl ?_
        refine WQ_skip rfl (gdN (b := true) 25 rfl rfl rfl) rfl ?_
        refine WQ_skip rfl (gdN (b := true) 25 rfl rfl rfl) rfl ?_
        refine WQ_val rfl gd0 (o_pickT (v := .bool true) rfl rfl rfl) rfl ?_
        refine WQ_nil ?_
        refine nrm ?_
        exact ⟨_, rfl, e0, e2, rfl, h⟩
      · rw [if_neg (neT hb70)] at h
        refine WQ_val rfl (gdY (b := (!x69)) 16 rfl rfl hb70) (o_fieldAddr 2 Try.underlying32 rfl Try.sizeOf3 rfl rfl rfl) rfl ?_
        obtain ⟨x71, hc72, h⟩ := h
        refine WQ_look (fun w => w.cell? (p12.add 2) = some (.int .i64 x71)) rfl (gdY (b := (!x69)) 16 rfl rfl hb70) (fun w hc => (o_load Try.isAgg3 rfl hc)) hc72 rfl ?_
        refine WQ_val rfl (gdY (b := (!x69)) 16 rfl rfl hb70) (o_move (v := .pointer f1) (by exact e0)) rfl ?_
        obtain ⟨p73, q74, h⟩ := h
        refine WQ_val rfl (gdY (b := (!x69)) 16 rfl rfl hb70) (o_nilCheck (by exact (congrArg Value.pointer q74))) rfl ?_
        refine WQ_val rfl (gdY (b := (!x69)) 16 rfl rfl hb70) (o_fieldAddr0 Try.underlying51 rfl Try.sizeOf3 rfl rfl rfl) rfl ?_
        obtain ⟨x75, hc76, h⟩ := h
        refine WQ_look (fun w => w.cell? p73 = some (.int .i64 x75)) rfl (gdY (b := (!x69)) 16 rfl rfl hb70) (fun w hc => (o_load Try.isAgg3 rfl hc)) hc76 rfl ?_
        refine WQ_val rfl (gdY (b := (!x69)) 16 rfl rfl hb70) (o_neq rfl rfl) rfl ?_
        refine WQ_val rfl gd0 (o_pickF (v := .bool (decide (x71 ≠ x75))) rfl hb70 rfl) rfl ?_
        refine WQ_val rfl gd0 (o_move (v := .bool (decide (x71 ≠ x75))) rfl) rfl ?_
        refine bsplit (decide (x71 ≠ x75)) (fun hb77 => ?_) (fun hb77 => ?_)
        · rw [if_pos (of_decide_eq_true hb77)] at h
          refine WQ_skip rfl (gdN (b := (decide (x71 ≠ x75))) 25 rfl rfl hb77) rfl ?_
          refine WQ_skip rfl (gdN (b := (decide (x71 ≠ x75))) 25 rfl rfl hb77) rfl ?_
          refine WQ_skip rfl (gdN (b := (decide (x71 ≠ x75))) 25 rfl rfl hb77) rfl ?_
          refine WQ_skip rfl (gdN (b := (decide (x71 ≠ x75))) 25 rfl rfl hb77) rfl ?_
          refine WQ_skip rfl (gdN (b := (decide (x71 ≠ x75))) 25 rfl rfl hb77) rfl ?_
          refine WQ_skip rfl (gdN (b := (decide (x71 ≠ x75))) 25 rfl rfl hb77) rfl ?_
          refine WQ_skip rfl (gdN (b := (decide (x71 ≠ x75))) 25 rfl rfl hb77) rfl ?_
          refine WQ_skip rfl (gdN (b := (decide (x71 ≠ x75))) 25 rfl rfl hb77) rfl ?_
          refine WQ_val rfl gd0 (o_pickT (v := .bool true) rfl hb77 rfl) rfl ?_
          refine WQ_nil ?_
          refine nrm ?_
          exact ⟨_, rfl, e0, e2, rfl, h⟩
        · rw [if_neg (of_decide_eq_false hb77)] at h
          refine WQ_val rfl (gdY (b := (decide (x71 ≠ x75))) 25 rfl rfl hb77) (o_fieldAddr 3 Try.underlying32 rfl Try.sizeOf3 rfl rfl rfl) rfl ?_
          obtain ⟨x78, hc79, h⟩ := h
          refine WQ_look (fun w => w.cell? (p12.add 3) = some (.int .i64 x78)) rfl (gdY (b := (decide (x71 ≠ x75))) 25 rfl rfl hb77) (fun w hc => (o_load Try.isAgg3 rfl hc)) hc79 rfl ?_
          refine WQ_val rfl (gdY (b := (decide (x71 ≠ x75))) 25 rfl rfl hb77) (o_move (v := .pointer f1) (by exact e0)) rfl ?_
          refine WQ_val rfl (gdY (b := (decide (x71 ≠ x75))) 25 rfl rfl hb77) (o_nilCheck (by exact (congrArg Value.pointer q74))) rfl ?_
          refine WQ_val rfl (gdY (b := (decide (x71 ≠ x75))) 25 rfl rfl hb77) (o_fieldAddr 2 Try.underlying51 rfl Try.sizeOf40 rfl rfl rfl) rfl ?_
          refine WQ_val rfl (gdY (b := (decide (x71 ≠ x75))) 25 rfl rfl hb77) (o_fieldAddr0 Try.underlying40 rfl Try.sizeOf3 rfl rfl rfl) rfl ?_
          obtain ⟨x80, hc81, h⟩ := h
          refine WQ_look (fun w => w.cell? (p73.add 2) = some (.int .i64 x80)) rfl (gdY (b := (decide (x71 ≠ x75))) 25 rfl rfl hb77) (fun w hc => (o_load Try.isAgg3 rfl hc)) hc81 rfl ?_
          refine WQ_val rfl (gdY (b := (decide (x71 ≠ x75))) 25 rfl rfl hb77) (o_neq rfl rfl) rfl ?_
          refine WQ_val rfl gd0 (o_pickF (v := .bool (decide (x78 ≠ x80))) rfl hb77 rfl) rfl ?_
          refine WQ_nil ?_
          refine nrm ?_
          exact ⟨_, rfl, e0, e2, rfl, h⟩
  · rintro ρ w19 ⟨t18, e34_17, e0_14, e2_15, e4_16, h⟩
    unfold F9_j1 at h
    refine WC_cond (t := t18) (by exact e34_17) (fun hb20 => ?_) (fun hb20 => ?_)
    · rw [if_pos hb20] at h
      refine WC_seq ?_
      refine WC_region ?_
      refine WL_val gd0 ((o_assign (v := .slice none 0 0) rfl) _) rfl ?_
      refine WL_val gd0 ((o_assign (v := .int .i64 0) rfl) _) rfl ?_
      refine WL_nil ?_
      refine nrm ?_
      refine WC_ret ?_
      refine rtT ?_
      refine rtE ?_
      exact gv2 rfl rfl rfl h
    · rw [if_neg (neT hb20)] at h
      refine WC_skip ?_
      refine nrm ?_
      refine WC_seq ?_
      refine WC_region ?_
      refine WL_val gd0 ((o_assign (v := .int .i64 1) rfl) _) rfl ?_
      refine WL_nil ?_
      refine nrm ?_
      refine WC_cut (fun ρ w' => ∃ (verdict23 : Int), ρ 8 = .int .i64 verdict23 ∧ ρ 4 = .pointer (some p12) ∧ F9_j2 p12 verdict23 w' k) ?_ ?_
      · refine WC_block ?_
        refine WC_seq ?_
        refine WC_region ?_
        refine WL_val gd0 ((o_fieldAddr 1 Try.underlying32 rfl Try.sizeOf4 rfl rfl (by exact e4_16)) _) rfl ?_
        obtain ⟨t34, hc35, h⟩ := h
        refine WL_val gd0 (o_load Try.isAgg4 rfl hc35) rfl ?_
        refine WL_val gd0 ((o_assign (v := .bool t34) rfl) _) rfl ?_
        refine WL_nil ?_
        refine nrm ?_
        refine WC_cond (t := t34) rfl (fun hb36 => ?_) (fun hb36 => ?_)
        · rw [if_pos hb36] at h
          refine WC_region ?_
          refine WL_val gd0 ((o_move (v := .pointer f1) (by exact e0_14)) _) rfl ?_
          obtain ⟨x37, x38, x39, x40, x41, x_a42, x_n43, x_c44, hc45, h⟩ := h
          refine WL_val gd0 (o_loadAgg (vs := [.bool x37, .bool x38, .int .i64 x39, .int .i64 x40, .int .i64 x41, .slice x_a42 x_n43 x_c44]) Try.isAgg32 Try.sizeOf32 (by exact e4_16) hc45) rfl ?_
          refine WL_call gd0 (o_call Try.call24 (argCons rfl (argCons rfl argNil)) _) rfl (h.mono ?_)
          rintro _ w46 ⟨verdict47, rfl, h⟩
          refine WL_val gd0 ((o_assign (v := .int .i64 verdict47) rfl) _) rfl ?_
          refine WL_nil ?_
          refine nrmB ?_
          refine nrm ?_
          exact ⟨_, rfl, e4_16, h⟩
        · rw [if_neg (neT hb36)] at h
          refine WC_seq ?_
          refine WC_region ?_
          refine WL_val gd0 ((o_fieldAddr0 Try.underlying32 rfl Try.sizeOf4 rfl rfl (by exact e4_16)) _) rfl ?_
          obtain ⟨t48, hc49, h⟩ := h
          refine WL_val gd0 (o_load Try.isAgg4 rfl hc49) rfl ?_
          refine WL_val gd0 ((o_assign (v := .bool t48) rfl) _) rfl ?_
          refine WL_nil ?_
          refine nrm ?_
          refine WC_cond (t := t48) rfl (fun hb50 => ?_) (fun hb50 => ?_)
          · rw [if_pos hb50] at h
            refine WC_region ?_
            refine WL_val gd0 ((o_move (v := .pointer f1) (by exact e0_14)) _) rfl ?_
            refine WL_call gd0 (o_call Try.call25 (argCons rfl argNil) _) rfl (h.mono ?_)
            rintro _ w51 ⟨rfl, h⟩
            refine WL_nil ?_
            refine nrmB ?_
            refine nrm ?_
            exact ⟨_, rfl, e4_16, h⟩
          · rw [if_neg (neT hb50)] at h
            refine WC_region ?_
            refine WL_val gd0 ((o_move (v := .pointer f1) (by exact e0_14)) _) rfl ?_
            refine WL_val gd0 ((o_fieldAddr 4 Try.underlying32 rfl Try.sizeOf3 rfl rfl (by exact e4_16)) _) rfl ?_
            obtain ⟨x52, hc53, h⟩ := h
            refine WL_val gd0 (o_load Try.isAgg3 rfl hc53) rfl ?_
            refine WL_val gd0 ((o_move (v := .bool room10) (by exact e2_15)) _) rfl ?_
            refine WL_call gd0 (o_call Try.call26 (argCons rfl (argCons rfl (argCons rfl argNil))) _) rfl (h.mono ?_)
            rintro _ w54 ⟨verdict55, rfl, h⟩
            refine WL_val gd0 ((o_assign (v := .int .i64 verdict55) rfl) _) rfl ?_
            refine WL_nil ?_
            refine nrmB ?_
            refine nrm ?_
            exact ⟨_, rfl, e4_16, h⟩
      · rintro ρ w24 ⟨verdict23, e8_22, e4_21, h⟩
        unfold F9_j2 at h
        refine WC_seq ?_
        refine WC_seq ?_
        refine WC_region ?_
        refine WL_val gd0 ((o_move (v := .int .i64 verdict23) (by exact e8_22)) _) rfl ?_
        refine WL_val gd0 ((o_neq rfl rfl) _) rfl ?_
        refine WL_nil ?_
        refine nrm ?_
        refine WC_cond (t := (decide (verdict23 ≠ 1))) rfl (fun hb25 => ?_) (fun hb25 => ?_)
        · rw [if_pos (of_decide_eq_true hb25)] at h
          refine WC_seq ?_
          refine WC_region ?_
          refine WL_val gd0 ((o_move (v := .int .i64 verdict23) (by exact e8_22)) _) rfl ?_
          refine WL_val gd0 ((o_assign (v := .slice none 0 0) rfl) _) rfl ?_
          refine WL_val gd0 ((o_assign (v := .int .i64 verdict23) rfl) _) rfl ?_
          refine WL_nil ?_
          refine nrm ?_
          refine WC_ret ?_
          refine rtT ?_
          refine rtE ?_
          exact gv2 rfl rfl rfl h
        · rw [if_neg (of_decide_eq_false hb25)] at h
          refine WC_skip ?_
          refine nrm ?_
          refine WC_seq ?_
          refine WC_region ?_
          refine WL_val gd0 ((o_fieldAddr 5 Try.underlying32 rfl Try.sizeOf28 rfl rfl (by exact e4_21)) _) rfl ?_
          obtain ⟨x_a26, x_n27, x_c28, hc29, h⟩ := h
          refine WL_val gd0 (o_load Try.isAgg28 rfl hc29) rfl ?_
          refine WL_call gd0 (o_call Try.call27 (argCons rfl argNil) _) rfl (h.mono ?_)
          rintro _ w30 ⟨t_a31, t_n32, t_c33, rfl, h⟩
          refine WL_val gd0 ((o_assign (v := .slice t_a31 t_n32 t_c33) rfl) _) rfl ?_
          refine WL_val gd0 ((o_assign (v := .int .i64 1) rfl) _) rfl ?_
          refine WL_nil ?_
          refine nrm ?_
          refine WC_ret ?_
          refine rtE ?_
          exact gv2 rfl rfl rfl h

def F10_j3 (p28 : Addr) (p10 : Addr) (t59 : Bool) (w60 : World) (k : Value → World → Prop) : Prop :=
  if t59 = true then
  Put w60 (p28.add 10) (.int .i64 1) (fun w62 => ∃ (x64 : Bool), w62.cell? (p10.add 2) = some (.bool x64) ∧ if x64 = true then
    Put w62 (p28.add 10) (.int .i64 2) (fun w67 => k (.int .i64 0) w67)
  else
    k (.int .i64 0) w62)
else
  k (.int .i64 0) w60
def F10_j2 (p28 : Addr) (p10 : Addr) (w55 : World) (k : Value → World → Prop) : Prop :=
  ∃ (x69 : Int), w55.cell? (p28.add 10) = some (.int .i64 x69) ∧ if x69 = 1 then
  F10_j3 p28 p10 true w55 k
else
  ∃ (x72 : Int), w55.cell? (p28.add 10) = some (.int .i64 x72) ∧ F10_j3 p28 p10 (decide (x72 = 2)) w55 k
def F10_j1 (p10 : Addr) (p28 : Addr) (w52 : World) (k : Value → World → Prop) : Prop :=
  ∃ (x74 : Bool), w52.cell? (p10.add 3) = some (.bool x74) ∧ if x74 = true then
  Does Try.prog 20 #[.pointer (some p28)] w52 (fun v w77 => v = .tuple #[] ∧ F10_j2 p28 p10 w77 k)
else
  F10_j2 p28 p10 w52 k
/-- (*spacecraft fop.Fop).Report -/
def F10 (f1 : Option Addr) (c2 : Int) (c3 : Bool) (c4 : Bool) (c5 : Bool) (c6 : Int) (c7 : Int) (now8 : Int) (w9 : World) (k : Value → World → Prop) : Prop :=
  New w9 40 [.int .i64 c2, .bool c3, .bool c4, .bool c5, .int .i64 c6, .int .i64 c7] (fun p10 w11 => Does Try.prog 16 #[.pointer f1] w11 (fun v w12 => ∃ (x13 : Bool), v = .bool x13 ∧ if (!x13) = true then
  k (.int .i64 2) w12
else
  Does Try.prog 18 #[.pointer f1, .int .i64 now8] w12 (fun v w15 => v = .tuple #[] ∧ ∃ (x16 : Int) (x17 x18 x19 : Bool) (x20 x21 : Int), Cells w15.drew p10 0 [.int .i64 x16, .bool x17, .bool x18, .bool x19, .int .i64 x20, .int .i64 x21] ∧ Does Try.prog 28 #[.agg #[.int .i64 x16, .bool x17, .bool x18, .bool x19, .int .i64 x20, .int .i64 x21]] w15.drew (fun v w23 => ∃ (x24 : Bool), v = .bool x24 ∧ if (!x24) = true then
    k (.int .i64 1) w23
  else
    ∃ (x26 : Int), w23.cell? p10 = some (.int .i64 x26) ∧ ∃ (p28 : Addr), f1 = some p28 ∧ ∃ (x30 : Int), w23.cell? (p28.add 7) = some (.int .i64 x30) ∧ if x26 ≠ x30 then
      k (.int .i64 1) w23
    else
      ∃ (x33 : Bool), w23.cell? (p10.add 1) = some (.bool x33) ∧ if x33 = true then
        Put w23 (p28.add 10) (.int .i64 3) (fun w36 => k (.int .i64 14) w36)
      else
        ∃ (x38 : Int), w23.drew.cell? (p28.add 2) = some (.int .i64 x38) ∧ ∃ (x40 : Int), w23.drew.cell? (p10.add 5) = some (.int .i64 x40) ∧ Does Try.prog 29 #[.int .i64 (Int.tmod x38 256), .int .i64 x40, .int .i64 8] w23.drew (fun v w42 => ∃ (d43 : Int), v = .int .i64 d43 ∧ ∃ (x44 : Int), w42.cell? (p28.add 4) = some (.int .i64 x44) ∧ if x44 < d43 then
          Put w42 (p28.add 10) (.int .i64 4) (fun w47 => k (.int .i64 12) w47)
        else
          Does Try.prog 30 #[.pointer (some p28), .int .i64 d43] w42 (fun v w49 => v = .tuple #[] ∧ if 0 < d43 then
            ∃ (x79 : Int), w49.cell? (p28.add 12) = some (.int .i64 x79) ∧ Put w49 (p28.add 14) (.int .i64 0) (fun w81 => Put w81 (p28.add 13) (.int .i64 x79) (fun w83 => F10_j1 p10 p28 w83 k))
          else
            F10_j1 p10 p28 w49 k))))))
set_option maxRecDepth 100000 in
set_option maxHeartbeats 2000000 in
theorem w10 (f1 : Option Addr) (c2 : Int) (c3 : Bool) (c4 : Bool) (c5 : Bool) (c6 : Int) (c7 : Int) (now8 : Int) (w9 : World) (k : Value → World → Prop) (h : F10 f1 c2 c3 c4 c5 c6 c7 now8 w9 k) : Does Try.prog 10 #[.pointer f1, .agg #[.int .i64 c2, .bool c3, .bool c4, .bool c5, .int .i64 c6, .int .i64 c7], .int .i64 now8] w9 k := by
  refine enter 93 Try.func10 rfl rfl rfl ?_
  intro ρ hρ
  have e0 := hρ 0 _ rfl
  have e1 := hρ 1 _ rfl
  have e2 := hρ 2 _ rfl
  unfold F10 at h
  refine WC_seq ?_
  refine WC_region ?_
  have h := New.out h
  refine WL_val gd0 (o_box (v := .agg #[.int .i64 c2, .bool c3, .bool c4, .bool c5, .int .i64 c6, .int .i64 c7]) (cs := [.int .i64 c2, .bool c3, .bool c4, .bool c5, .int .i64 c6, .int .i64 c7]) (by exact e1) rfl) rfl ?_
  generalize hp10 : fresh w9 = p10 at h ⊢
  generalize hw11 : push w9 40 [.int .i64 c2, .bool c3, .bool c4, .bool c5, .int .i64 c6, .int .i64 c7] = w11 at h ⊢
  try dsimp only at h
  refine WL_val gd0 ((o_assign (v := .int .i64 0) rfl) _) rfl ?_
  refine WL_nil ?_
  refine nrm ?_
  refine WC_seq ?_
  refine WC_seq ?_
  refine WC_region ?_
  refine WL_val gd0 ((o_move (v := .pointer f1) (by exact e0)) _) rfl ?_
  refine WL_call gd0 (o_call Try.call16 (argCons rfl argNil) _) rfl (h.mono ?_)
  rintro _ w12 ⟨x13, rfl, h⟩
  refine WL_val gd0 ((o_not rfl) _) rfl ?_
  refine WL_nil ?_
  refine nrm ?_
  refine WC_cond (t := (!x13)) rfl (fun hb14 => ?_) (fun hb14 => ?_)
  · rw [if_pos hb14] at h
    refine WC_seq ?_
    refine WC_region ?_
    refine WL_val gd0 ((o_assign (v := .int .i64 2) rfl) _) rfl ?_
    refine WL_nil ?_
    refine nrm ?_
    refine WC_ret ?_
    refine rtT ?_
    refine rtE ?_
    exact gv1 rfl rfl h
  · rw [if_neg (neT hb14)] at h
    refine WC_skip ?_
    refine nrm ?_
    refine WC_seq ?_
    refine WC_region ?_
    refine WL_val gd0 ((o_move (v := .pointer f1) (by exact e0)) _) rfl ?_
    refine WL_val gd0 ((o_move (v := .int .i64 now8) (by exact e2)) _) rfl ?_
    refine WL_call gd0 (o_call Try.call18 (argCons rfl (argCons rfl argNil)) _) rfl (h.mono ?_)
    rintro _ w15 ⟨rfl, h⟩
    refine WL_nil ?_
    refine nrm ?_
    refine WC_seq ?_
    refine WC_seq ?_
    refine WC_draws [1] (.look 0 (.act 1 (.look 2 (.look 3 (.look 4 (.look 5 (.look 6 (.look 7 (.look 8 (.look 9 (.look 10 (.look 11 .nil)))))))))))) Try.mixed (by kernel_rfl) ?_
    obtain ⟨x16, x17, x18, x19, x20, x21, hc22, h⟩ := h
    refine WQ_look (fun w => Cells w p10 0 [.int .i64 x16, .bool x17, .bool x18, .bool x19, .int .i64 x20, .int .i64 x21]) rfl gd0 (fun w hc => (o_loadAgg (vs := [.int .i64 x16, .bool x17, .bool x18, .bool x19, .int .i64 x20, .int .i64 x21]) Try.isAgg40 Try.sizeOf40 rfl hc)) hc22 rfl ?_
    refine WQ_call rfl gd0 (o_call Try.call28 (argCons rfl argNil) _) rfl (h.mono ?_)
    rintro _ w23 ⟨x24, rfl, h⟩
    refine ⟨⟨trivial, depT (by kernel_rfl)⟩, ?_⟩
    refine WQ_val rfl gd0 (o_not rfl) rfl ?_
    refine WQ_val rfl gd0 (o_move (v := .bool (!x24)) rfl) rfl ?_
    refine bsplit (!x24) (fun hb25 => ?_) (fun hb25 => ?_)
    · rw [if_pos hb25] at h
      refine WQ_skip rfl (gdN (b := (!x24)) 17 rfl rfl hb25) rfl ?_
      refine WQ_skip rfl (gdN (b := (!x24)) 17 rfl rfl hb25) rfl ?_
      refine WQ_skip rfl (gdN (b := (!x24)) 17 rfl rfl hb25) rfl ?_
      refine WQ_skip rfl (gdN (b := (!x24)) 17 rfl rfl hb25) rfl ?_
      refine WQ_skip rfl (gdN (b := (!x24)) 17 rfl rfl hb25) rfl ?_
      refine WQ_skip rfl (gdN (b := (!x24)) 17 rfl rfl hb25) rfl ?_
      refine WQ_skip rfl (gdN (b := (!x24)) 17 rfl rfl hb25) rfl ?_
      refine WQ_val rfl gd0 (o_pickT (v := .bool true) rfl hb25 rfl) rfl ?_
      refine WQ_nil ?_
      refine nrm ?_
      refine WC_cond (t := true) rfl (fun _ => ?_) (fun hx => by rw [(rfl : true = true)] at hx; cases hx)
      refine WC_seq ?_
      refine WC_region ?_
      refine WL_val gd0 ((o_assign (v := .int .i64 1) rfl) _) rfl ?_
      refine WL_nil ?_
      refine nrm ?_
      refine WC_ret ?_
      refine rtT ?_
      refine rtE ?_
      exact gv1 rfl rfl h
    · rw [if_neg (neT hb25)] at h
      refine WQ_val rfl (gdY (b := (!x24)) 17 rfl rfl hb25) (o_fieldAddr0 Try.underlying40 rfl Try.sizeOf3 rfl rfl rfl) rfl ?_
      obtain ⟨x26, hc27, h⟩ := h
      refine WQ_look (fun w => w.cell? p10 = some (.int .i64 x26)) rfl (gdY (b := (!x24)) 17 rfl rfl hb25) (fun w hc => (o_load Try.isAgg3 rfl hc)) hc27 rfl ?_
      refine WQ_val rfl (gdY (b := (!x24)) 17 rfl rfl hb25) (o_move (v := .pointer f1) (by exact e0)) rfl ?_
      obtain ⟨p28, q29, h⟩ := h
      refine WQ_val rfl (gdY (b := (!x24)) 17 rfl rfl hb25) (o_nilCheck (by exact (congrArg Value.pointer q29))) rfl ?_
      refine WQ_val rfl (gdY (b := (!x24)) 17 rfl rfl hb25) (o_fieldAddr 7 Try.underlying49 rfl Try.sizeOf3 rfl rfl rfl) rfl ?_
      obtain ⟨x30, hc31, h⟩ := h
      refine WQ_look (fun w => w.cell? (p28.add 7) = some (.int .i64 x30)) rfl (gdY (b := (!x24)) 17 rfl rfl hb25) (fun w hc => (o_load Try.isAgg3 rfl hc)) hc31 rfl ?_
      refine WQ_val rfl (gdY (b := (!x24)) 17 rfl rfl hb25) (o_neq rfl rfl) rfl ?_
      refine WQ_val rfl gd0 (o_pickF (v := .bool (decide (x26 ≠ x30))) rfl hb25 rfl) rfl ?_
      refine WQ_nil ?_
      refine nrm ?_
      refine WC_cond (t := (decide (x26 ≠ x30))) rfl (fun hb32 => ?_) (fun hb32 => ?_)
      · rw [if_pos (of_decide_eq_true hb32)] at h
        refine WC_seq ?_
        refine WC_region ?_
        refine WL_val gd0 ((o_assign (v := .int .i64 1) rfl) _) rfl ?_
        refine WL_nil ?_
        refine nrm ?_
        refine WC_ret ?_
        refine rtT ?_
        refine rtE ?_
        exact gv1 rfl rfl h
      · rw [if_neg (of_decide_eq_false hb32)] at h
        refine WC_skip ?_
        refine nrm ?_
        refine WC_seq ?_
        refine WC_seq ?_
        refine WC_region ?_
        refine WL_val gd0 ((o_fieldAddr 1 Try.underlying40 rfl Try.sizeOf4 rfl rfl rfl) _) rfl ?_
        obtain ⟨x33, hc34, h⟩ := h
        refine WL_val gd0 (o_load Try.isAgg4 rfl hc34) rfl ?_
        refine WL_nil ?_
        refine nrm ?_
        refine WC_cond (t := x33) rfl (fun hb35 => ?_) (fun hb35 => ?_)
        · rw [if_pos hb35] at h
          refine WC_seq ?_
          refine WC_region ?_
          refine WL_val gd0 ((o_move (v := .pointer f1) (by exact e0)) _) rfl ?_
          refine WL_val gd0 ((o_nilCheck (by exact (congrArg Value.pointer q29))) _) rfl ?_
          refine WL_val gd0 ((o_fieldAddr 10 Try.underlying49 rfl Try.sizeOf3 rfl rfl rfl) _) rfl ?_
          obtain ⟨c37, h⟩ := h
          refine WL_act gd0 (o_store (v := .int .i64 3) Try.sizeOf3 rfl rfl rfl c37) ?_
          generalize hw36 : World.setCell w23 (p28.add 10) (.int .i64 3) = w36 at h ⊢
          try dsimp only at h
          refine WL_nil ?_
          refine nrm ?_
          refine WC_seq ?_
          refine WC_region ?_
          refine WL_val gd0 ((o_assign (v := .int .i64 14) rfl) _) rfl ?_
          refine WL_nil ?_
          refine nrm ?_
          refine WC_ret ?_
          refine rtT ?_
          refine rtE ?_
          exact gv1 rfl rfl h
        · rw [if_neg (neT hb35)] at h
          refine WC_skip ?_
          refine nrm ?_
          refine WC_seq ?_
          refine WC_draws [8] (.look 0 (.look 1 (.look 2 (.look 3 (.look 4 (.look 5 (.look 6 (.look 7 (.act 8 (.look 9 .nil)))))))))) Try.mixed (by kernel_rfl) ?_
          refine WQ_val rfl gd0 (o_move (v := .pointer f1) (by exact e0)) rfl ?_
          refine WQ_val rfl gd0 (o_nilCheck (by exact (congrArg Value.pointer q29))) rfl ?_
          refine WQ_val rfl gd0 (o_fieldAddr0 Try.underlying49 rfl Try.sizeOf46 rfl rfl rfl) rfl ?_
          refine WQ_val rfl gd0 (o_fieldAddr 2 Try.underlying46 rfl Try.sizeOf3 rfl rfl rfl) rfl ?_
          obtain ⟨x38, hc39, h⟩ := h
          refine WQ_look (fun w => w.cell? (p28.add 2) = some (.int .i64 x38)) rfl gd0 (fun w hc => (o_load Try.isAgg3 rfl hc)) hc39 rfl ?_
          refine WQ_val rfl gd0 (fun w => o_rem rfl rfl w (by decide)) rfl ?_
          refine WQ_val rfl gd0 (o_fieldAddr 5 Try.underlying40 rfl Try.sizeOf3 rfl rfl rfl) rfl ?_
          obtain ⟨x40, hc41, h⟩ := h
          refine WQ_look (fun w => w.cell? (p10.add 5) = some (.int .i64 x40)) rfl gd0 (fun w hc => (o_load Try.isAgg3 rfl hc)) hc41 rfl ?_
          refine WQ_call rfl gd0 (o_call Try.call29 (argCons rfl (argCons rfl (argCons rfl argNil))) _) rfl (h.mono ?_)
          rintro _ w42 ⟨d43, rfl, h⟩
          refine ⟨⟨⟨trivial, depT (by kernel_rfl)⟩, depT (by kernel_rfl)⟩, ?_⟩
          refine WQ_val rfl gd0 (o_assign (v := .int .i64 d43) rfl) rfl ?_
          refine WQ_nil ?_
          refine nrm ?_
          refine WC_seq ?_
          refine WC_seq ?_
          refine WC_region ?_
          refine WL_val gd0 ((o_move (v := .int .i64 d43) rfl) _) rfl ?_
          refine WL_val gd0 ((o_move (v := .pointer f1) (by exact e0)) _) rfl ?_
          refine WL_val gd0 ((o_nilCheck (by exact (congrArg Value.pointer q29))) _) rfl ?_
          refine WL_val gd0 ((o_fieldAddr0 Try.underlying49 rfl Try.sizeOf46 rfl rfl rfl) _) rfl ?_
          refine WL_val gd0 ((o_fieldAddr 4 Try.underlying46 rfl Try.sizeOf3 rfl rfl rfl) _) rfl ?_
          obtain ⟨x44, hc45, h⟩ := h
          refine WL_val gd0 (o_load Try.isAgg3 rfl hc45) rfl ?_
          refine WL_val gd0 ((o_gtr rfl rfl) _) rfl ?_
          refine WL_nil ?_
          refine nrm ?_
          refine WC_cond (t := (decide (x44 < d43))) rfl (fun hb46 => ?_) (fun hb46 => ?_)
          · rw [if_pos (of_decide_eq_true hb46)] at h
            refine WC_seq ?_
            refine WC_region ?_
            refine WL_val gd0 ((o_move (v := .pointer f1) (by exact e0)) _) rfl ?_
            refine WL_val gd0 ((o_nilCheck (by exact (congrArg Value.pointer q29))) _) rfl ?_
            refine WL_val gd0 ((o_fieldAddr 10 Try.underlying49 rfl Try.sizeOf3 rfl rfl rfl) _) rfl ?_
            obtain ⟨c48, h⟩ := h
            refine WL_act gd0 (o_store (v := .int .i64 4) Try.sizeOf3 rfl rfl rfl c48) ?_
            generalize hw47 : World.setCell w42 (p28.add 10) (.int .i64 4) = w47 at h ⊢
            try dsimp only at h
            refine WL_nil ?_
            refine nrm ?_
            refine WC_seq ?_
            refine WC_region ?_
            refine WL_val gd0 ((o_assign (v := .int .i64 12) rfl) _) rfl ?_
            refine WL_nil ?_
            refine nrm ?_
            refine WC_ret ?_
            refine rtT ?_
            refine rtE ?_
            exact gv1 rfl rfl h
          · rw [if_neg (of_decide_eq_false hb46)] at h
            refine WC_skip ?_
            refine nrm ?_
            refine WC_seq ?_
            refine WC_region ?_
            refine WL_val gd0 ((o_move (v := .pointer f1) (by exact e0)) _) rfl ?_
            refine WL_val gd0 ((o_nilCheck (by exact (congrArg Value.pointer q29))) _) rfl ?_
            refine WL_val gd0 ((o_fieldAddr0 Try.underlying49 rfl Try.sizeOf46 rfl rfl rfl) _) rfl ?_
            refine WL_val gd0 ((o_move (v := .int .i64 d43) rfl) _) rfl ?_
            refine WL_call gd0 (o_call Try.call30 (argCons rfl (argCons rfl argNil)) _) rfl (h.mono ?_)
            rintro _ w49 ⟨rfl, h⟩
            refine WL_nil ?_
            refine nrm ?_
            refine WC_cut (fun ρ w' => ρ 0 = .pointer f1 ∧ ρ 4 = .pointer (some p10) ∧ F10_j1 p10 p28 w' k) ?_ ?_
            · refine WC_seq ?_
              refine WC_region ?_
              refine WL_val gd0 ((o_move (v := .int .i64 d43) rfl) _) rfl ?_
              refine WL_val gd0 ((o_gtr rfl rfl) _) rfl ?_
              refine WL_nil ?_
              refine nrm ?_
              refine WC_cond (t := (decide (0 < d43))) rfl (fun hb78 => ?_) (fun hb78 => ?_)
              · rw [if_pos (of_decide_eq_true hb78)] at h
                refine WC_region ?_
                refine WL_val gd0 ((o_move (v := .pointer f1) (by exact e0)) _) rfl ?_
                refine WL_val gd0 ((o_move (v := .pointer f1) (by exact e0)) _) rfl ?_
                refine WL_val gd0 ((o_move (v := .pointer f1) (by exact e0)) _) rfl ?_
                refine WL_val gd0 ((o_nilCheck (by exact (congrArg Value.pointer q29))) _) rfl ?_
                refine WL_val gd0 ((o_fieldAddr 12 Try.underlying49 rfl Try.sizeOf3 rfl rfl rfl) _) rfl ?_
                obtain ⟨x79, hc80, h⟩ := h
                refine WL_val gd0 (o_load Try.isAgg3 rfl hc80) rfl ?_
                refine WL_val gd0 ((o_nilCheck (by exact (congrArg Value.pointer q29))) _) rfl ?_
                refine WL_val gd0 ((o_fieldAddr 14 Try.underlying49 rfl Try.sizeOf3 rfl rfl rfl) _) rfl ?_
                obtain ⟨c82, h⟩ := h
                refine WL_act gd0 (o_store (v := .int .i64 0) Try.sizeOf3 rfl rfl rfl c82) ?_
                generalize hw81 : World.setCell w49 (p28.add 14) (.int .i64 0) = w81 at h ⊢
                try dsimp only at h
                refine WL_val gd0 ((o_nilCheck (by exact (congrArg Value.pointer q29))) _) rfl ?_
                refine WL_val gd0 ((o_fieldAddr 13 Try.underlying49 rfl Try.sizeOf3 rfl rfl rfl) _) rfl ?_
                obtain ⟨c84, h⟩ := h
                refine WL_act gd0 (o_store (v := .int .i64 x79) Try.sizeOf3 rfl rfl rfl c84) ?_
                generalize hw83 : World.setCell w81 (p28.add 13) (.int .i64 x79) = w83 at h ⊢
                try dsimp only at h
                refine WL_nil ?_
                refine nrm ?_
                exact ⟨e0, rfl, h⟩
              · rw [if_neg (of_decide_eq_false hb78)] at h
                refine WC_skip ?_
                refine nrm ?_
                exact ⟨e0, rfl, h⟩
            · rintro ρ w52 ⟨e0_50, e4_51, h⟩
              unfold F10_j1 at h
              refine WC_cut (fun ρ w' => ρ 0 = .pointer f1 ∧ ρ 4 = .pointer (some p10) ∧ F10_j2 p28 p10 w' k) ?_ ?_
              · refine WC_seq ?_
                refine WC_region ?_
                refine WL_val gd0 ((o_fieldAddr 3 Try.underlying40 rfl Try.sizeOf4 rfl rfl (by exact e4_51)) _) rfl ?_
                obtain ⟨x74, hc75, h⟩ := h
                refine WL_val gd0 (o_load Try.isAgg4 rfl hc75) rfl ?_
                refine WL_nil ?_
                refine nrm ?_
                refine WC_cond (t := x74) rfl (fun hb76 => ?_) (fun hb76 => ?_)
                · rw [if_pos hb76] at h
                  refine WC_region ?_
                  refine WL_val gd0 ((o_move (v := .pointer f1) (by exact e0_50)) _) rfl ?_
                  refine WL_val gd0 ((o_nilCheck (by exact (congrArg Value.pointer q29))) _) rfl ?_
                  refine WL_val gd0 ((o_fieldAddr0 Try.underlying49 rfl Try.sizeOf46 rfl rfl rfl) _) rfl ?_
                  refine WL_call gd0 (o_call Try.call20 (argCons rfl argNil) _) rfl (h.mono ?_)
                  rintro _ w77 ⟨rfl, h⟩
                  refine WL_nil ?_
                  refine nrm ?_
                  exact ⟨e0_50, e4_51, h⟩
                · rw [if_neg (neT hb76)] at h
                  refine WC_skip ?_
                  refine nrm ?_
                  exact ⟨e0_50, e4_51, h⟩
              · rintro ρ w55 ⟨e0_53, e4_54, h⟩
                unfold F10_j2 at h
                refine WC_seq ?_
                refine WC_cut (fun ρ w' => ∃ (t59 : Bool), ρ 84 = .bool t59 ∧ ρ 0 = .pointer f1 ∧ ρ 4 = .pointer (some p10) ∧ F10_j3 p28 p10 t59 w' k) ?_ ?_
                · refine WC_region ?_
                  refine WL_val gd0 ((o_move (v := .pointer f1) (by exact e0_53)) _) rfl ?_
                  refine WL_val gd0 ((o_nilCheck (by exact (congrArg Value.pointer q29))) _) rfl ?_
                  refine WL_val gd0 ((o_fieldAddr 10 Try.underlying49 rfl Try.sizeOf3 rfl rfl rfl) _) rfl ?_
                  obtain ⟨x69, hc70, h⟩ := h
                  refine WL_val gd0 (o_load Try.isAgg3 rfl hc70) rfl ?_
                  refine WL_val gd0 ((o_eql rfl rfl) _) rfl ?_
                  refine WL_val gd0 ((o_move (v := .bool (decide (x69 = 1))) rfl) _) rfl ?_
                  refine bsplit (decide (x69 = 1)) (fun hb71 => ?_) (fun hb71 => ?_)
                  · rw [if_pos (of_decide_eq_true hb71)] at h
                    refine WL_skip (gdN (b := (decide (x69 = 1))) 78 rfl rfl hb71) rfl ?_
                    refine WL_skip (gdN (b := (decide (x69 = 1))) 78 rfl rfl hb71) rfl ?_
                    refine WL_skip (gdN (b := (decide (x69 = 1))) 78 rfl rfl hb71) rfl ?_
                    refine WL_skip (gdN (b := (decide (x69 = 1))) 78 rfl rfl hb71) rfl ?_
                    refine WL_skip (gdN (b := (decide (x69 = 1))) 78 rfl rfl hb71) rfl ?_
                    refine WL_val gd0 ((o_pickT (v := .bool true) rfl hb71 rfl) _) rfl ?_
                    refine WL_nil ?_
                    refine nrm ?_
                    exact ⟨_, rfl, e0_53, e4_54, h⟩
                  · rw [if_neg (of_decide_eq_false hb71)] at h
                    refine WL_val (gdY (b := (decide (x69 = 1))) 78 rfl rfl hb71) ((o_move (v := .pointer f1) (by exact e0_53)) _) rfl ?_
                    refine WL_val (gdY (b := (decide (x69 = 1))) 78 rfl rfl hb71) ((o_nilCheck (by exact (congrArg Value.pointer q29))) _) rfl ?_
                    refine WL_val (gdY (b := (decide (x69 = 1))) 78 rfl rfl hb71) ((o_fieldAddr 10 Try.underlying49 rfl Try.sizeOf3 rfl rfl rfl) _) rfl ?_
                    obtain ⟨x72, hc73, h⟩ := h
                    refine WL_val (gdY (b := (decide (x69 = 1))) 78 rfl rfl hb71) (o_load Try.isAgg3 rfl hc73) rfl ?_
                    refine WL_val (gdY (b := (decide (x69 = 1))) 78 rfl rfl hb71) ((o_eql rfl rfl) _) rfl ?_
                    refine WL_val gd0 ((o_pickF (v := .bool (decide (x72 = 2))) rfl hb71 rfl) _) rfl ?_
                    refine WL_nil ?_
                    refine nrm ?_
                    exact ⟨_, rfl, e0_53, e4_54, h⟩
                · rintro ρ w60 ⟨t59, e84_58, e0_56, e4_57, h⟩
                  unfold F10_j3 at h
                  refine WC_cond (t := t59) (by exact e84_58) (fun hb61 => ?_) (fun hb61 => ?_)
                  · rw [if_pos hb61] at h
                    refine WC_seq ?_
                    refine WC_region ?_
                    refine WL_val gd0 ((o_move (v := .pointer f1) (by exact e0_56)) _) rfl ?_
                    refine WL_val gd0 ((o_nilCheck (by exact (congrArg Value.pointer q29))) _) rfl ?_
                    refine WL_val gd0 ((o_fieldAddr 10 Try.underlying49 rfl Try.sizeOf3 rfl rfl rfl) _) rfl ?_
                    obtain ⟨c63, h⟩ := h
                    refine WL_act gd0 (o_store (v := .int .i64 1) Try.sizeOf3 rfl rfl rfl c63) ?_
                    generalize hw62 : World.setCell w60 (p28.add 10) (.int .i64 1) = w62 at h ⊢
                    try dsimp only at h
                    refine WL_nil ?_
                    refine nrm ?_
                    refine WC_seq ?_
                    refine WC_region ?_
                    refine WL_val gd0 ((o_fieldAddr 2 Try.underlying40 rfl Try.sizeOf4 rfl rfl (by exact e4_57)) _) rfl ?_
                    obtain ⟨x64, hc65, h⟩ := h
                    refine WL_val gd0 (o_load Try.isAgg4 rfl hc65) rfl ?_
                    refine WL_nil ?_
                    refine nrm ?_
                    refine WC_cond (t := x64) rfl (fun hb66 => ?_) (fun hb66 => ?_)
                    · rw [if_pos hb66] at h
                      refine WC_region ?_
                      refine WL_val gd0 ((o_move (v := .pointer f1) (by exact e0_56)) _) rfl ?_
                      refine WL_val gd0 ((o_nilCheck (by exact (congrArg Value.pointer q29))) _) rfl ?_
                      refine WL_val gd0 ((o_fieldAddr 10 Try.underlying49 rfl Try.sizeOf3 rfl rfl rfl) _) rfl ?_
                      obtain ⟨c68, h⟩ := h
                      refine WL_act gd0 (o_store (v := .int .i64 2) Try.sizeOf3 rfl rfl rfl c68) ?_
                      generalize hw67 : World.setCell w62 (p28.add 10) (.int .i64 2) = w67 at h ⊢
                      try dsimp only at h
                      refine WL_nil ?_
                      refine nrm ?_
                      refine WC_seq ?_
                      refine WC_region ?_
                      refine WL_val gd0 ((o_assign (v := .int .i64 0) rfl) _) rfl ?_
                      refine WL_nil ?_
                      refine nrm ?_
                      refine WC_ret ?_
                      refine rtE ?_
                      exact gv1 rfl rfl h
                    · rw [if_neg (neT hb66)] at h
                      refine WC_skip ?_
                      refine nrm ?_
                      refine WC_seq ?_
                      refine WC_region ?_
                      refine WL_val gd0 ((o_assign (v := .int .i64 0) rfl) _) rfl ?_
                      refine WL_nil ?_
                      refine nrm ?_
                      refine WC_ret ?_
                      refine rtE ?_
                      exact gv1 rfl rfl h
                  · rw [if_neg (neT hb61)] at h
                    refine WC_skip ?_
                    refine nrm ?_
                    refine WC_seq ?_
                    refine WC_region ?_
                    refine WL_val gd0 ((o_assign (v := .int .i64 0) rfl) _) rfl ?_
                    refine WL_nil ?_
                    refine nrm ?_
                    refine WC_ret ?_
                    refine rtE ?_
                    exact gv1 rfl rfl h

/-- (*spacecraft farm.Farm).Report -/
def F11 (f1 : Option Addr) (w2 : World) (k : Value → World → Prop) : Prop :=
  New w2 40 [.int .i64 0, .bool false, .bool false, .bool false, .int .i64 0, .int .i64 0] (fun p3 w4 => Does Try.prog 22 #[.pointer f1] w4 (fun v w5 => ∃ (x6 : Bool), v = .bool x6 ∧ if x6 = true then
  PutAll w5 p3 [.int .i64 0, .bool false, .bool false, .bool false, .int .i64 0, .int .i64 0] (fun w8 => ∃ (r10 : Int) (r11 r12 r13 : Bool) (r14 r15 : Int), Cells w8 p3 0 [.int .i64 r10, .bool r11, .bool r12, .bool r13, .int .i64 r14, .int .i64 r15] ∧ k (.agg #[.int .i64 r10, .bool r11, .bool r12, .bool r13, .int .i64 r14, .int .i64 r15]) w8)
else
  ∃ (p17 : Addr), f1 = some p17 ∧ ∃ (x19 : Int) (x20 x21 x22 : Bool) (x23 x24 : Int), Cells w5 (p17.add 2) 0 [.int .i64 x19, .bool x20, .bool x21, .bool x22, .int .i64 x23, .int .i64 x24] ∧ PutAll w5 p3 [.int .i64 x19, .bool x20, .bool x21, .bool x22, .int .i64 x23, .int .i64 x24] (fun w26 => ∃ (r28 : Int) (r29 r30 r31 : Bool) (r32 r33 : Int), Cells w26 p3 0 [.int .i64 r28, .bool r29, .bool r30, .bool r31, .int .i64 r32, .int .i64 r33] ∧ k (.agg #[.int .i64 r28, .bool r29, .bool r30, .bool r31, .int .i64 r32, .int .i64 r33]) w26)))
set_option maxRecDepth 100000 in
set_option maxHeartbeats 2000000 in
theorem w11 (f1 : Option Addr) (w2 : World) (k : Value → World → Prop) (h : F11 f1 w2 k) : Does Try.prog 11 #[.pointer f1] w2 k := by
  refine enter 10 Try.func11 rfl rfl rfl ?_
  intro ρ hρ
  have e0 := hρ 0 _ rfl
  unfold F11 at h
  refine WC_seq ?_
  refine WC_region ?_
  have h := New.out h
  refine WL_val gd0 (o_alloc (z := .agg #[.int .i64 0, .bool false, .bool false, .bool false, .int .i64 0, .int .i64 0]) (cs := [.int .i64 0, .bool false, .bool false, .bool false, .int .i64 0, .int .i64 0]) Try.zeroValue40 rfl) rfl ?_
  generalize hp3 : fresh w2 = p3 at h ⊢
  generalize hw4 : push w2 40 [.int .i64 0, .bool false, .bool false, .bool false, .int .i64 0, .int .i64 0] = w4 at h ⊢
  try dsimp only at h
  refine WL_nil ?_
  refine nrm ?_
  refine WC_seq ?_
  refine WC_seq ?_
  refine WC_region ?_
  refine WL_val gd0 ((o_move (v := .pointer f1) (by exact e0)) _) rfl ?_
  refine WL_call gd0 (o_call Try.call22 (argCons rfl argNil) _) rfl (h.mono ?_)
  rintro _ w5 ⟨x6, rfl, h⟩
  refine WL_nil ?_
  refine nrm ?_
  refine WC_cond (t := x6) rfl (fun hb7 => ?_) (fun hb7 => ?_)
  · rw [if_pos hb7] at h
    refine WC_seq ?_
    refine WC_region ?_
    refine WL_val gd0 ((o_build (ps := []) (v := .agg #[.int .i64 0, .bool false, .bool false, .bool false, .int .i64 0, .int .i64 0]) partNil (fun w => by kernel_rfl)) _) rfl ?_
    obtain ⟨c9, h⟩ := h
    refine WL_act gd0 (o_storeAgg (vs := [.int .i64 0, .bool false, .bool false, .bool false, .int .i64 0, .int .i64 0]) Try.sizeOf40 rfl rfl rfl c9) ?_
    generalize hw8 : setAll w5 p3 0 [.int .i64 0, .bool false, .bool false, .bool false, .int .i64 0, .int .i64 0] = w8 at h ⊢
    try dsimp only at h
    refine WL_nil ?_
    refine nrm ?_
    refine WC_ret ?_
    refine rtT ?_
    refine rtE ?_
    obtain ⟨r10, r11, r12, r13, r14, r15, hc16, h⟩ := h
    exact gvC (vs := [.int .i64 r10, .bool r11, .bool r12, .bool r13, .int .i64 r14, .int .i64 r15]) rfl Try.isAgg40 Try.sizeOf40 rfl hc16 h
  · rw [if_neg (neT hb7)] at h
    refine WC_skip ?_
    refine nrm ?_
    refine WC_seq ?_
    refine WC_region ?_
    refine WL_val gd0 ((o_move (v := .pointer f1) (by exact e0)) _) rfl ?_
    obtain ⟨p17, q18, h⟩ := h
    refine WL_val gd0 ((o_nilCheck (by exact (congrArg Value.pointer q18))) _) rfl ?_
    refine WL_val gd0 ((o_fieldAddr 2 Try.underlying51 rfl Try.sizeOf40 rfl rfl rfl) _) rfl ?_
    obtain ⟨x19, x20, x21, x22, x23, x24, hc25, h⟩ := h
    refine WL_val gd0 (o_loadAgg (vs := [.int .i64 x19, .bool x20, .bool x21, .bool x22, .int .i64 x23, .int .i64 x24]) Try.isAgg40 Try.sizeOf40 rfl hc25) rfl ?_
    obtain ⟨c27, h⟩ := h
    refine WL_act gd0 (o_storeAgg (vs := [.int .i64 x19, .bool x20, .bool x21, .bool x22, .int .i64 x23, .int .i64 x24]) Try.sizeOf40 rfl rfl rfl c27) ?_
    generalize hw26 : setAll w5 p3 0 [.int .i64 x19, .bool x20, .bool x21, .bool x22, .int .i64 x23, .int .i64 x24] = w26 at h ⊢
    try dsimp only at h
    refine WL_nil ?_
    refine nrm ?_
    refine WC_ret ?_
    refine rtE ?_
    obtain ⟨r28, r29, r30, r31, r32, r33, hc34, h⟩ := h
    exact gvC (vs := [.int .i64 r28, .bool r29, .bool r30, .bool r31, .int .i64 r32, .int .i64 r33]) rfl Try.isAgg40 Try.sizeOf40 rfl hc34 h

/-- (*spacecraft fop.Fop).Queued -/
def F12 (f1 : Option Addr) (w2 : World) (k : Value → World → Prop) : Prop :=
  Does Try.prog 16 #[.pointer f1] w2 (fun v w3 => ∃ (x4 : Bool), v = .bool x4 ∧ if (!x4) = true then
  k (.int .i64 0) w3
else
  ∃ (p6 : Addr), f1 = some p6 ∧ ∃ (x_a8 : Option Addr) (x_n9 x_c10 : Nat), w3.cell? (p6.add 1) = some (.slice x_a8 x_n9 x_c10) ∧ k (.int .i64 (x_n9 : Int)) w3)
set_option maxRecDepth 100000 in
set_option maxHeartbeats 2000000 in
theorem w12 (f1 : Option Addr) (w2 : World) (k : Value → World → Prop) (h : F12 f1 w2 k) : Does Try.prog 12 #[.pointer f1] w2 k := by
  refine enter 12 Try.func12 rfl rfl rfl ?_
  intro ρ hρ
  have e0 := hρ 0 _ rfl
  unfold F12 at h
  refine WC_seq ?_
  refine WC_region ?_
  refine WL_val gd0 ((o_assign (v := .int .i64 0) rfl) _) rfl ?_
  refine WL_nil ?_
  refine nrm ?_
  refine WC_seq ?_
  refine WC_seq ?_
  refine WC_region ?_
  refine WL_val gd0 ((o_move (v := .pointer f1) (by exact e0)) _) rfl ?_
  refine WL_call gd0 (o_call Try.call16 (argCons rfl argNil) _) rfl (h.mono ?_)
  rintro _ w3 ⟨x4, rfl, h⟩
  refine WL_val gd0 ((o_not rfl) _) rfl ?_
  refine WL_nil ?_
  refine nrm ?_
  refine WC_cond (t := (!x4)) rfl (fun hb5 => ?_) (fun hb5 => ?_)
  · rw [if_pos hb5] at h
    refine WC_seq ?_
    refine WC_region ?_
    refine WL_val gd0 ((o_assign (v := .int .i64 0) rfl) _) rfl ?_
    refine WL_nil ?_
    refine nrm ?_
    refine WC_ret ?_
    refine rtT ?_
    refine rtE ?_
    exact gv1 rfl rfl h
  · rw [if_neg (neT hb5)] at h
    refine WC_skip ?_
    refine nrm ?_
    refine WC_seq ?_
    refine WC_region ?_
    refine WL_val gd0 ((o_move (v := .pointer f1) (by exact e0)) _) rfl ?_
    obtain ⟨p6, q7, h⟩ := h
    refine WL_val gd0 ((o_nilCheck (by exact (congrArg Value.pointer q7))) _) rfl ?_
    refine WL_val gd0 ((o_fieldAddr0 Try.underlying49 rfl Try.sizeOf46 rfl rfl rfl) _) rfl ?_
    refine WL_val gd0 ((o_fieldAddr 1 Try.underlying46 rfl Try.sizeOf22 rfl rfl rfl) _) rfl ?_
    obtain ⟨x_a8, x_n9, x_c10, hc11, h⟩ := h
    refine WL_val gd0 (o_load Try.isAgg22 rfl hc11) rfl ?_
    refine WL_val gd0 ((o_len Try.underlying22 rfl) _) rfl ?_
    refine WL_val gd0 ((o_assign (v := .int .i64 (x_n9 : Int)) rfl) _) rfl ?_
    refine WL_nil ?_
    refine nrm ?_
    refine WC_ret ?_
    refine rtE ?_
    exact gv1 rfl rfl h

/-- (*spacecraft fop.Fop).Acked -/
def F13 (f1 : Option Addr) (w2 : World) (k : Value → World → Prop) : Prop :=
  Does Try.prog 16 #[.pointer f1] w2 (fun v w3 => ∃ (x4 : Bool), v = .bool x4 ∧ if (!x4) = true then
  k (.int .i64 0) w3
else
  ∃ (p6 : Addr), f1 = some p6 ∧ ∃ (t8 : Int), w3.cell? (p6.add 2) = some (.int .i64 t8) ∧ k (.int .i64 t8) w3)
set_option maxRecDepth 100000 in
set_option maxHeartbeats 2000000 in
theorem w13 (f1 : Option Addr) (w2 : World) (k : Value → World → Prop) (h : F13 f1 w2 k) : Does Try.prog 13 #[.pointer f1] w2 k := by
  refine enter 11 Try.func13 rfl rfl rfl ?_
  intro ρ hρ
  have e0 := hρ 0 _ rfl
  unfold F13 at h
  refine WC_seq ?_
  refine WC_region ?_
  refine WL_val gd0 ((o_assign (v := .int .i64 0) rfl) _) rfl ?_
  refine WL_nil ?_
  refine nrm ?_
  refine WC_seq ?_
  refine WC_seq ?_
  refine WC_region ?_
  refine WL_val gd0 ((o_move (v := .pointer f1) (by exact e0)) _) rfl ?_
  refine WL_call gd0 (o_call Try.call16 (argCons rfl argNil) _) rfl (h.mono ?_)
  rintro _ w3 ⟨x4, rfl, h⟩
  refine WL_val gd0 ((o_not rfl) _) rfl ?_
  refine WL_nil ?_
  refine nrm ?_
  refine WC_cond (t := (!x4)) rfl (fun hb5 => ?_) (fun hb5 => ?_)
  · rw [if_pos hb5] at h
    refine WC_seq ?_
    refine WC_region ?_
    refine WL_val gd0 ((o_assign (v := .int .i64 0) rfl) _) rfl ?_
    refine WL_nil ?_
    refine nrm ?_
    refine WC_ret ?_
    refine rtT ?_
    refine rtE ?_
    exact gv1 rfl rfl h
  · rw [if_neg (neT hb5)] at h
    refine WC_skip ?_
    refine nrm ?_
    refine WC_seq ?_
    refine WC_region ?_
    refine WL_val gd0 ((o_move (v := .pointer f1) (by exact e0)) _) rfl ?_
    obtain ⟨p6, q7, h⟩ := h
    refine WL_val gd0 ((o_nilCheck (by exact (congrArg Value.pointer q7))) _) rfl ?_
    refine WL_val gd0 ((o_fieldAddr0 Try.underlying49 rfl Try.sizeOf46 rfl rfl rfl) _) rfl ?_
    refine WL_val gd0 ((o_fieldAddr 2 Try.underlying46 rfl Try.sizeOf3 rfl rfl rfl) _) rfl ?_
    obtain ⟨t8, hc9, h⟩ := h
    refine WL_val gd0 (o_load Try.isAgg3 rfl hc9) rfl ?_
    refine WL_val gd0 ((o_assign (v := .int .i64 t8) rfl) _) rfl ?_
    refine WL_nil ?_
    refine nrm ?_
    refine WC_ret ?_
    refine rtE ?_
    exact gv1 rfl rfl h

/-- (*spacecraft fop.Fop).State -/
def F14 (f1 : Option Addr) (w2 : World) (k : Value → World → Prop) : Prop :=
  Does Try.prog 16 #[.pointer f1] w2 (fun v w3 => ∃ (x4 : Bool), v = .bool x4 ∧ if (!x4) = true then
  k (.int .i64 0) w3
else
  ∃ (p6 : Addr), f1 = some p6 ∧ ∃ (t8 : Int), w3.cell? (p6.add 10) = some (.int .i64 t8) ∧ k (.int .i64 t8) w3)
set_option maxRecDepth 100000 in
set_option maxHeartbeats 2000000 in
theorem w14 (f1 : Option Addr) (w2 : World) (k : Value → World → Prop) (h : F14 f1 w2 k) : Does Try.prog 14 #[.pointer f1] w2 k := by
  refine enter 10 Try.func14 rfl rfl rfl ?_
  intro ρ hρ
  have e0 := hρ 0 _ rfl
  unfold F14 at h
  refine WC_seq ?_
  refine WC_region ?_
  refine WL_val gd0 ((o_assign (v := .int .i64 0) rfl) _) rfl ?_
  refine WL_nil ?_
  refine nrm ?_
  refine WC_seq ?_
  refine WC_seq ?_
  refine WC_region ?_
  refine WL_val gd0 ((o_move (v := .pointer f1) (by exact e0)) _) rfl ?_
  refine WL_call gd0 (o_call Try.call16 (argCons rfl argNil) _) rfl (h.mono ?_)
  rintro _ w3 ⟨x4, rfl, h⟩
  refine WL_val gd0 ((o_not rfl) _) rfl ?_
  refine WL_nil ?_
  refine nrm ?_
  refine WC_cond (t := (!x4)) rfl (fun hb5 => ?_) (fun hb5 => ?_)
  · rw [if_pos hb5] at h
    refine WC_seq ?_
    refine WC_region ?_
    refine WL_val gd0 ((o_assign (v := .int .i64 0) rfl) _) rfl ?_
    refine WL_nil ?_
    refine nrm ?_
    refine WC_ret ?_
    refine rtT ?_
    refine rtE ?_
    exact gv1 rfl rfl h
  · rw [if_neg (neT hb5)] at h
    refine WC_skip ?_
    refine nrm ?_
    refine WC_seq ?_
    refine WC_region ?_
    refine WL_val gd0 ((o_move (v := .pointer f1) (by exact e0)) _) rfl ?_
    obtain ⟨p6, q7, h⟩ := h
    refine WL_val gd0 ((o_nilCheck (by exact (congrArg Value.pointer q7))) _) rfl ?_
    refine WL_val gd0 ((o_fieldAddr 10 Try.underlying49 rfl Try.sizeOf3 rfl rfl rfl) _) rfl ?_
    obtain ⟨t8, hc9, h⟩ := h
    refine WL_val gd0 (o_load Try.isAgg3 rfl hc9) rfl ?_
    refine WL_val gd0 ((o_assign (v := .int .i64 t8) rfl) _) rfl ?_
    refine WL_nil ?_
    refine nrm ?_
    refine WC_ret ?_
    refine rtE ?_
    exact gv1 rfl rfl h

/-- spacecraft fop.New 1 -/
def F15 (n1 : Int) (lo2 : Int) (hi3 : Int) (w4 : World) (k : Value → World → Prop) : Prop :=
  k (.int .i64 (min (max n1 lo2) hi3)) w4
set_option maxRecDepth 100000 in
set_option maxHeartbeats 2000000 in
theorem w15 (n1 : Int) (lo2 : Int) (hi3 : Int) (w4 : World) (k : Value → World → Prop) (h : F15 n1 lo2 hi3 w4 k) : Does Try.prog 15 #[.int .i64 n1, .int .i64 lo2, .int .i64 hi3] w4 k := by
  refine enter 12 Try.func15 rfl rfl rfl ?_
  intro ρ hρ
  have e0 := hρ 0 _ rfl
  have e1 := hρ 1 _ rfl
  have e2 := hρ 2 _ rfl
  unfold F15 at h
  refine WC_seq ?_
  refine WC_region ?_
  refine WL_val gd0 ((o_assign (v := .int .i64 0) rfl) _) rfl ?_
  refine WL_nil ?_
  refine nrm ?_
  refine WC_seq ?_
  refine WC_region ?_
  refine WL_val gd0 ((o_move (v := .int .i64 n1) (by exact e0)) _) rfl ?_
  refine WL_val gd0 ((o_move (v := .int .i64 lo2) (by exact e1)) _) rfl ?_
  refine WL_val gd0 ((o_max2 rfl rfl) _) rfl ?_
  refine WL_val gd0 ((o_move (v := .int .i64 hi3) (by exact e2)) _) rfl ?_
  refine WL_val gd0 ((o_min2 rfl rfl) _) rfl ?_
  refine WL_val gd0 ((o_assign (v := .int .i64 (min (max n1 lo2) hi3)) rfl) _) rfl ?_
  refine WL_nil ?_
  refine nrm ?_
  refine WC_ret ?_
  refine rtE ?_
  exact gv1 rfl rfl h

/-- (*spacecraft fop.Fop).usable -/
def F16 (f1 : Option Addr) (w2 : World) (k : Value → World → Prop) : Prop :=
  if (!(f1).isNone) = true then
  ∃ (p4 : Addr), f1 = some p4 ∧ ∃ (x6 : Bool), w2.cell? (p4.add 5) = some (.bool x6) ∧ k (.bool x6) w2
else
  k (.bool false) w2
set_option maxRecDepth 100000 in
set_option maxHeartbeats 2000000 in
theorem w16 (f1 : Option Addr) (w2 : World) (k : Value → World → Prop) (h : F16 f1 w2 k) : Does Try.prog 16 #[.pointer f1] w2 k := by
  refine enter 11 Try.func16 rfl rfl rfl ?_
  intro ρ hρ
  have e0 := hρ 0 _ rfl
  unfold F16 at h
  refine WC_seq ?_
  refine WC_region ?_
  refine WL_val gd0 ((o_assign (v := .bool false) rfl) _) rfl ?_
  refine WL_nil ?_
  refine nrm ?_
  refine WC_seq ?_
  refine WC_region ?_
  refine WL_val gd0 ((o_move (v := .pointer f1) (by exact e0)) _) rfl ?_
  refine WL_val gd0 ((o_neqPtrNil Try.underlying24 rfl rfl) _) rfl ?_
  refine WL_val gd0 ((o_move (v := .bool (!(f1).isNone)) rfl) _) rfl ?_
  refine bsplit (!(f1).isNone) (fun hb3 => ?_) (fun hb3 => ?_)
  · rw [if_pos hb3] at h
    refine WL_val (gdY (b := (!(f1).isNone)) 5 rfl rfl hb3) ((o_move (v := .pointer f1) (by exact e0)) _) rfl ?_
    obtain ⟨p4, q5, h⟩ := h
    refine WL_val (gdY (b := (!(f1).isNone)) 5 rfl rfl hb3) ((o_nilCheck (by exact (congrArg Value.pointer q5))) _) rfl ?_
    refine WL_val (gdY (b := (!(f1).isNone)) 5 rfl rfl hb3) ((o_fieldAddr 5 Try.underlying49 rfl Try.sizeOf4 rfl rfl rfl) _) rfl ?_
    obtain ⟨x6, hc7, h⟩ := h
    refine WL_val (gdY (b := (!(f1).isNone)) 5 rfl rfl hb3) (o_load Try.isAgg4 rfl hc7) rfl ?_
    refine WL_val gd0 ((o_pickT (v := .bool x6) rfl hb3 rfl) _) rfl ?_
    refine WL_val gd0 ((o_assign (v := .bool x6) rfl) _) rfl ?_
    refine WL_nil ?_
    refine nrm ?_
    refine WC_ret ?_
    refine rtE ?_
    exact gv1 rfl rfl h
  · rw [if_neg (neT hb3)] at h
    refine WL_skip (gdN (b := (!(f1).isNone)) 5 rfl rfl hb3) rfl ?_
    refine WL_skip (gdN (b := (!(f1).isNone)) 5 rfl rfl hb3) rfl ?_
    refine WL_skip (gdN (b := (!(f1).isNone)) 5 rfl rfl hb3) rfl ?_
    refine WL_skip (gdN (b := (!(f1).isNone)) 5 rfl rfl hb3) rfl ?_
    refine WL_val gd0 ((o_pickF (v := .bool false) rfl hb3 rfl) _) rfl ?_
    refine WL_val gd0 ((o_assign (v := .bool false) rfl) _) rfl ?_
    refine WL_nil ?_
    refine nrm ?_
    refine WC_ret ?_
    refine rtE ?_
    exact gv1 rfl rfl h

/-- slices.Clone   byte,byte  -/
def F17 (s_a1 : Option Addr) (s_n2 : Nat) (s_c3 : Nat) (w4 : World) (k : Value → World → Prop) : Prop :=
  if (s_a1).isNone = true then
  k (.slice none 0 0) w4
else
  New w4 5 [] (fun p6 w7 => ∃ (b_a8 : Option Addr) (b_n9 b_c10 : Nat) (w11 : World), (Builtin.append_ #[28, 28] 28 #[.slice (some p6) 0 0, .slice s_a1 s_n2 s_c3]).run Try.prog w7 = .ok (.slice b_a8 b_n9 b_c10) w11 ∧ k (.slice b_a8 b_n9 b_c10) w11)
set_option maxRecDepth 100000 in
set_option maxHeartbeats 2000000 in
theorem w17 (s_a1 : Option Addr) (s_n2 : Nat) (s_c3 : Nat) (w4 : World) (k : Value → World → Prop) (h : F17 s_a1 s_n2 s_c3 w4 k) : Does Try.prog 17 #[.slice s_a1 s_n2 s_c3] w4 k := by
  refine enter 8 Try.func17 rfl rfl rfl ?_
  intro ρ hρ
  have e0 := hρ 0 _ rfl
  unfold F17 at h
  refine WC_seq ?_
  refine WC_region ?_
  refine WL_val gd0 ((o_assign (v := .slice none 0 0) rfl) _) rfl ?_
  refine WL_nil ?_
  refine nrm ?_
  refine WC_seq ?_
  refine WC_seq ?_
  refine WC_region ?_
  refine WL_val gd0 ((o_move (v := .slice s_a1 s_n2 s_c3) (by exact e0)) _) rfl ?_
  refine WL_val gd0 ((o_eqlSliceNil Try.underlying28 rfl rfl) _) rfl ?_
  refine WL_nil ?_
  refine nrm ?_
  refine WC_cond (t := ((s_a1).isNone)) rfl (fun hb5 => ?_) (fun hb5 => ?_)
  · rw [if_pos hb5] at h
    refine WC_seq ?_
    refine WC_region ?_
    refine WL_val gd0 ((o_assign (v := .slice none 0 0) rfl) _) rfl ?_
    refine WL_nil ?_
    refine nrm ?_
    refine WC_ret ?_
    refine rtT ?_
    refine rtE ?_
    exact gv1 rfl rfl h
  · rw [if_neg (neT hb5)] at h
    refine WC_skip ?_
    refine nrm ?_
    refine WC_seq ?_
    refine WC_region ?_
    have h := New.out h
    refine WL_val gd0 (o_buildSlice (e := 5) (ps := []) (cs := []) partNil (fun w => by kernel_rfl)) rfl ?_
    generalize hp6 : fresh w4 = p6 at h ⊢
    generalize hw7 : push w4 5 [] = w7 at h ⊢
    try dsimp only at h
    refine WL_val gd0 ((o_move (v := .slice s_a1 s_n2 s_c3) (by exact e0)) _) rfl ?_
    obtain ⟨b_a8, b_n9, b_c10, w11, r12, h⟩ := h
    refine WL_val gd0 (o_append rfl rfl r12) rfl ?_
    refine WL_val gd0 ((o_assign (v := .slice b_a8 b_n9 b_c10) rfl) _) rfl ?_
    refine WL_nil ?_
    refine nrm ?_
    refine WC_ret ?_
    refine rtE ?_
    exact gv1 rfl rfl h

/-- (*spacecraft fop.Fop).clock -/
def F18 (f1 : Option Addr) (now2 : Int) (w3 : World) (k : Value → World → Prop) : Prop :=
  if now2 ≤ 1099511627776 then
  ∃ (p5 : Addr), f1 = some p5 ∧ ∃ (x7 : Int), w3.cell? (p5.add 12) = some (.int .i64 x7) ∧ Put w3 (p5.add 12) (.int .i64 (max x7 now2)) (fun w9 => k (.tuple #[]) w9)
else
  k (.tuple #[]) w3
set_option maxRecDepth 100000 in
set_option maxHeartbeats 2000000 in
theorem w18 (f1 : Option Addr) (now2 : Int) (w3 : World) (k : Value → World → Prop) (h : F18 f1 now2 w3 k) : Does Try.prog 18 #[.pointer f1, .int .i64 now2] w3 k := by
  refine enter 15 Try.func18 rfl rfl rfl ?_
  intro ρ hρ
  have e0 := hρ 0 _ rfl
  have e1 := hρ 1 _ rfl
  unfold F18 at h
  refine WC_seq ?_
  refine WC_region ?_
  refine WL_val gd0 ((o_move (v := .int .i64 now2) (by exact e1)) _) rfl ?_
  refine WL_val gd0 ((o_leq rfl rfl) _) rfl ?_
  refine WL_nil ?_
  refine nrm ?_
  refine WC_cond (t := (decide (now2 ≤ 1099511627776))) rfl (fun hb4 => ?_) (fun hb4 => ?_)
  · rw [if_pos (of_decide_eq_true hb4)] at h
    refine WC_region ?_
    refine WL_val gd0 ((o_move (v := .pointer f1) (by exact e0)) _) rfl ?_
    refine WL_val gd0 ((o_move (v := .pointer f1) (by exact e0)) _) rfl ?_
    obtain ⟨p5, q6, h⟩ := h
    refine WL_val gd0 ((o_nilCheck (by exact (congrArg Value.pointer q6))) _) rfl ?_
    refine WL_val gd0 ((o_fieldAddr 12 Try.underlying49 rfl Try.sizeOf3 rfl rfl rfl) _) rfl ?_
    obtain ⟨x7, hc8, h⟩ := h
    refine WL_val gd0 (o_load Try.isAgg3 rfl hc8) rfl ?_
    refine WL_val gd0 ((o_move (v := .int .i64 now2) (by exact e1)) _) rfl ?_
    refine WL_val gd0 ((o_max2 rfl rfl) _) rfl ?_
    refine WL_val gd0 ((o_nilCheck (by exact (congrArg Value.pointer q6))) _) rfl ?_
    refine WL_val gd0 ((o_fieldAddr 12 Try.underlying49 rfl Try.sizeOf3 rfl rfl rfl) _) rfl ?_
    obtain ⟨c10, h⟩ := h
    refine WL_act gd0 (o_store (v := .int .i64 (max x7 now2)) Try.sizeOf3 rfl rfl rfl c10) ?_
    generalize hw9 : World.setCell w3 (p5.add 12) (.int .i64 (max x7 now2)) = w9 at h ⊢
    try dsimp only at h
    refine WL_nil ?_
    refine ndE ?_
    exact gv0 rfl h
  · rw [if_neg (of_decide_eq_false hb4)] at h
    refine WC_skip ?_
    refine ndE ?_
    exact gv0 rfl h

/-- (*spacecraft fop.window).waiting -/
def F19 (w1 : Option Addr) (w2 : World) (k : Value → World → Prop) : Prop :=
  ∃ (p3 : Addr), w1 = some p3 ∧ ∃ (x5 : Int), w2.drew.cell? (p3.add 3) = some (.int .i64 x5) ∧ ∃ (x7 : Int), w2.drew.cell? p3 = some (.int .i64 x7) ∧ ∃ (x_a9 : Option Addr) (x_n10 x_c11 : Nat), w2.drew.cell? (p3.add 1) = some (.slice x_a9 x_n10 x_c11) ∧ k (.bool (decide (x5 < (min x7 (x_n10 : Int))))) w2.drew
set_option maxRecDepth 100000 in
set_option maxHeartbeats 2000000 in
theorem w19 (w1 : Option Addr) (w2 : World) (k : Value → World → Prop) (h : F19 w1 w2 k) : Does Try.prog 19 #[.pointer w1] w2 k := by
  refine enter 18 Try.func19 rfl rfl rfl ?_
  intro ρ hρ
  have e0 := hρ 0 _ rfl
  unfold F19 at h
  refine WC_seq ?_
  refine WC_region ?_
  refine WL_val gd0 ((o_assign (v := .bool false) rfl) _) rfl ?_
  refine WL_nil ?_
  refine nrm ?_
  refine WC_seq ?_
  refine WC_draws [] (.look 0 (.look 1 (.look 2 (.look 3 (.look 4 (.look 5 (.look 6 (.look 7 (.look 8 (.look 9 (.look 10 (.look 11 (.look 12 (.look 13 (.look 14 (.look 15 .nil)))))))))))))))) Try.mixed (by kernel_rfl) ?_
  refine WQ_val rfl gd0 (o_move (v := .pointer w1) (by exact e0)) rfl ?_
  obtain ⟨p3, q4, h⟩ := h
  refine WQ_val rfl gd0 (o_nilCheck (by exact (congrArg Value.pointer q4))) rfl ?_
  refine WQ_val rfl gd0 (o_fieldAddr 3 Try.underlying46 rfl Try.sizeOf3 rfl rfl rfl) rfl ?_
  obtain ⟨x5, hc6, h⟩ := h
  refine WQ_look (fun w => w.cell? (p3.add 3) = some (.int .i64 x5)) rfl gd0 (fun w hc => (o_load Try.isAgg3 rfl hc)) hc6 rfl ?_
  refine WQ_val rfl gd0 (o_move (v := .pointer w1) (by exact e0)) rfl ?_
  refine WQ_val rfl gd0 (o_nilCheck (by exact (congrArg Value.pointer q4))) rfl ?_
  refine WQ_val rfl gd0 (o_fieldAddr0 Try.underlying46 rfl Try.sizeOf3 rfl rfl rfl) rfl ?_
  obtain ⟨x7, hc8, h⟩ := h
  refine WQ_look (fun w => w.cell? p3 = some (.int .i64 x7)) rfl gd0 (fun w hc => (o_load Try.isAgg3 rfl hc)) hc8 rfl ?_
  refine WQ_val rfl gd0 (o_move (v := .pointer w1) (by exact e0)) rfl ?_
  refine WQ_val rfl gd0 (o_nilCheck (by exact (congrArg Value.pointer q4))) rfl ?_
  refine WQ_val rfl gd0 (o_fieldAddr 1 Try.underlying46 rfl Try.sizeOf22 rfl rfl rfl) rfl ?_
  obtain ⟨x_a9, x_n10, x_c11, hc12, h⟩ := h
  refine WQ_look (fun w => w.cell? (p3.add 1) = some (.slice x_a9 x_n10 x_c11)) rfl gd0 (fun w hc => (o_load Try.isAgg22 rfl hc)) hc12 rfl ?_
  refine WQ_val rfl gd0 (o_len Try.underlying22 rfl) rfl ?_
  refine WQ_val rfl gd0 (o_min2 rfl rfl) rfl ?_
  refine WQ_val rfl gd0 (o_lss rfl rfl) rfl ?_
  refine WQ_val rfl gd0 (o_assign (v := .bool (decide (x5 < (min x7 (x_n10 : Int))))) rfl) rfl ?_
  refine WQ_nil ?_
  refine nrm ?_
  refine WC_ret ?_
  refine rtE ?_
  exact gv1 rfl rfl h

/-- (*spacecraft fop.window).repeat -/
def F20 (w1 : Option Addr) (w2 : World) (k : Value → World → Prop) : Prop :=
  ∃ (p3 : Addr), w1 = some p3 ∧ Put w2 (p3.add 3) (.int .i64 0) (fun w5 => k (.tuple #[]) w5)
set_option maxRecDepth 100000 in
set_option maxHeartbeats 2000000 in
theorem w20 (w1 : Option Addr) (w2 : World) (k : Value → World → Prop) (h : F20 w1 w2 k) : Does Try.prog 20 #[.pointer w1] w2 k := by
  refine enter 5 Try.func20 rfl rfl rfl ?_
  intro ρ hρ
  have e0 := hρ 0 _ rfl
  unfold F20 at h
  refine WC_region ?_
  refine WL_val gd0 ((o_move (v := .pointer w1) (by exact e0)) _) rfl ?_
  obtain ⟨p3, q4, h⟩ := h
  refine WL_val gd0 ((o_nilCheck (by exact (congrArg Value.pointer q4))) _) rfl ?_
  refine WL_val gd0 ((o_fieldAddr 3 Try.underlying46 rfl Try.sizeOf3 rfl rfl rfl) _) rfl ?_
  obtain ⟨c6, h⟩ := h
  refine WL_act gd0 (o_store (v := .int .i64 0) Try.sizeOf3 rfl rfl rfl c6) ?_
  generalize hw5 : World.setCell w2 (p3.add 3) (.int .i64 0) = w5 at h ⊢
  try dsimp only at h
  refine WL_nil ?_
  refine ndE ?_
  exact gv0 rfl h

/-- (*spacecraft fop.window).take -/
def F21 (w1 : Option Addr) (w2 : World) (k : Value → World → Prop) : Prop :=
  ∃ (p3 : Addr), w1 = some p3 ∧ ∃ (x5 : Int), w2.drew.cell? (p3.add 2) = some (.int .i64 x5) ∧ ∃ (x7 : Int), w2.drew.cell? (p3.add 3) = some (.int .i64 x7) ∧ ∃ (x_a9 : Option Addr) (x_n10 x_c11 : Nat), w2.drew.cell? (p3.add 1) = some (.slice x_a9 x_n10 x_c11) ∧ ∃ (x13 : Int), w2.drew.cell? (p3.add 3) = some (.int .i64 x13) ∧ ∃ (p17 : Addr), x_a9 = some p17 ∧ (0 : Int) ≤ x13 ∧ x13 < (x_n10 : Int) ∧ ∃ (x_a19 : Option Addr) (x_n20 x_c21 : Nat), w2.drew.cell? (p17.add x13.toNat) = some (.slice x_a19 x_n20 x_c21) ∧ Does Try.prog 17 #[.slice x_a19 x_n20 x_c21] w2.drew (fun v w23 => ∃ (x_a24 : Option Addr) (x_n25 x_c26 : Nat), v = .slice x_a24 x_n25 x_c26 ∧ w23.cell? (p3.add 2) = some (.int .i64 x5) ∧ w23.cell? (p3.add 3) = some (.int .i64 x7) ∧ ∃ (x29 : Int), w23.cell? (p3.add 3) = some (.int .i64 x29) ∧ Put w23 (p3.add 3) (.int .i64 (IntKind.i64.wrap (x29 + 1))) (fun w31 => ∃ (x33 : Int), w31.drew.cell? (p3.add 4) = some (.int .i64 x33) ∧ ∃ (x35 : Int), w31.drew.cell? (p3.add 3) = some (.int .i64 x35) ∧ Put w31.drew (p3.add 4) (.int .i64 (max x33 x35)) (fun w37 => k (.tuple #[.int .i64 (Int.tmod (IntKind.i64.wrap (x5 + x7)) 256), .slice x_a24 x_n25 x_c26]) w37)))
set_option maxRecDepth 100000 in
set_option maxHeartbeats 2000000 in
theorem w21 (w1 : Option Addr) (w2 : World) (k : Value → World → Prop) (h : F21 w1 w2 k) : Does Try.prog 21 #[.pointer w1] w2 k := by
  refine enter 46 Try.func21 rfl rfl rfl ?_
  intro ρ hρ
  have e0 := hρ 0 _ rfl
  unfold F21 at h
  refine WC_seq ?_
  refine WC_region ?_
  refine WL_val gd0 ((o_assign (v := .int .i64 0) rfl) _) rfl ?_
  refine WL_val gd0 ((o_assign (v := .slice none 0 0) rfl) _) rfl ?_
  refine WL_nil ?_
  refine nrm ?_
  refine WC_seq ?_
  refine WC_draws [20] (.look 0 (.look 1 (.look 2 (.look 3 (.look 4 (.look 5 (.look 6 (.look 7 (.look 8 (.look 9 (.look 10 (.look 11 (.look 12 (.look 13 (.look 14 (.look 15 (.look 16 (.look 17 (.look 18 (.look 19 (.act 20 (.look 21 (.look 22 .nil))))))))))))))))))))))) Try.mixed (by kernel_rfl) ?_
  refine WQ_val rfl gd0 (o_move (v := .pointer w1) (by exact e0)) rfl ?_
  obtain ⟨p3, q4, h⟩ := h
  refine WQ_val rfl gd0 (o_nilCheck (by exact (congrArg Value.pointer q4))) rfl ?_
  refine WQ_val rfl gd0 (o_fieldAddr 2 Try.underlying46 rfl Try.sizeOf3 rfl rfl rfl) rfl ?_
  obtain ⟨x5, hc6, h⟩ := h
  refine WQ_look (fun w => w.cell? (p3.add 2) = some (.int .i64 x5)) rfl gd0 (fun w hc => (o_load Try.isAgg3 rfl hc)) hc6 rfl ?_
  refine WQ_val rfl gd0 (o_move (v := .pointer w1) (by exact e0)) rfl ?_
  refine WQ_val rfl gd0 (o_nilCheck (by exact (congrArg Value.pointer q4))) rfl ?_
  refine WQ_val rfl gd0 (o_fieldAddr 3 Try.underlying46 rfl Try.sizeOf3 rfl rfl rfl) rfl ?_
  obtain ⟨x7, hc8, h⟩ := h
  refine WQ_look (fun w => w.cell? (p3.add 3) = some (.int .i64 x7)) rfl gd0 (fun w hc => (o_load Try.isAgg3 rfl hc)) hc8 rfl ?_
  refine WQ_val rfl gd0 (o_add rfl rfl) rfl ?_
  refine WQ_val rfl gd0 (fun w => o_rem rfl rfl w (by decide)) rfl ?_
  refine WQ_val rfl gd0 (o_move (v := .pointer w1) (by exact e0)) rfl ?_
  refine WQ_val rfl gd0 (o_nilCheck (by exact (congrArg Value.pointer q4))) rfl ?_
  refine WQ_val rfl gd0 (o_fieldAddr 1 Try.underlying46 rfl Try.sizeOf22 rfl rfl rfl) rfl ?_
  obtain ⟨x_a9, x_n10, x_c11, hc12, h⟩ := h
  refine WQ_look (fun w => w.cell? (p3.add 1) = some (.slice x_a9 x_n10 x_c11)) rfl gd0 (fun w hc => (o_load Try.isAgg22 rfl hc)) hc12 rfl ?_
  refine WQ_val rfl gd0 (o_move (v := .pointer w1) (by exact e0)) rfl ?_
  refine WQ_val rfl gd0 (o_nilCheck (by exact (congrArg Value.pointer q4))) rfl ?_
  refine WQ_val rfl gd0 (o_fieldAddr 3 Try.underlying46 rfl Try.sizeOf3 rfl rfl rfl) rfl ?_
  obtain ⟨x13, hc14, h⟩ := h
  refine WQ_look (fun w => w.cell? (p3.add 3) = some (.int .i64 x13)) rfl gd0 (fun w hc => (o_load Try.isAgg3 rfl hc)) hc14 rfl ?_
  obtain ⟨p17, q18, h⟩ := h
  obtain ⟨l15, u16, h⟩ := h
  refine WQ_val rfl gd0 (o_indexAddr1 Try.underlying22 Try.sizeOf28 (by exact (congrArg (fun z => Value.slice z x_n10 x_c11) q18)) rfl l15 u16) rfl ?_
  obtain ⟨x_a19, x_n20, x_c21, hc22, h⟩ := h
  refine WQ_look (fun w => w.cell? (p17.add x13.toNat) = some (.slice x_a19 x_n20 x_c21)) rfl gd0 (fun w hc => (o_load Try.isAgg28 rfl hc)) hc22 rfl ?_
  refine WQ_call rfl gd0 (o_call Try.call17 (argCons rfl argNil) _) rfl (h.mono ?_)
  rintro _ w23 ⟨x_a24, x_n25, x_c26, rfl, hh27, hh28, h⟩
  refine ⟨⟨⟨⟨⟨⟨trivial, fun _ => hh27⟩, fun _ => hh28⟩, depT (by kernel_rfl)⟩, depT (by kernel_rfl)⟩, depT (by kernel_rfl)⟩, ?_⟩
  refine WQ_val rfl gd0 (o_assign (v := .int .i64 (Int.tmod (IntKind.i64.wrap (x5 + x7)) 256)) rfl) rfl ?_
  refine WQ_val rfl gd0 (o_assign (v := .slice x_a24 x_n25 x_c26) rfl) rfl ?_
  refine WQ_nil ?_
  refine nrm ?_
  refine WC_seq ?_
  refine WC_region ?_
  refine WL_val gd0 ((o_move (v := .pointer w1) (by exact e0)) _) rfl ?_
  refine WL_val gd0 ((o_nilCheck (by exact (congrArg Value.pointer q4))) _) rfl ?_
  refine WL_val gd0 ((o_fieldAddr 3 Try.underlying46 rfl Try.sizeOf3 rfl rfl rfl) _) rfl ?_
  obtain ⟨x29, hc30, h⟩ := h
  refine WL_val gd0 (o_load Try.isAgg3 rfl hc30) rfl ?_
  refine WL_val gd0 ((o_add rfl rfl) _) rfl ?_
  refine WL_val gd0 ((o_nilCheck (by exact (congrArg Value.pointer q4))) _) rfl ?_
  refine WL_val gd0 ((o_fieldAddr 3 Try.underlying46 rfl Try.sizeOf3 rfl rfl rfl) _) rfl ?_
  obtain ⟨c32, h⟩ := h
  refine WL_act gd0 (o_store (v := .int .i64 (IntKind.i64.wrap (x29 + 1))) Try.sizeOf3 rfl rfl rfl c32) ?_
  generalize hw31 : World.setCell w23 (p3.add 3) (.int .i64 (IntKind.i64.wrap (x29 + 1))) = w31 at h ⊢
  try dsimp only at h
  refine WL_nil ?_
  refine nrm ?_
  refine WC_seq ?_
  refine WC_draws [12] (.look 0 (.look 1 (.look 2 (.look 3 (.look 4 (.look 5 (.look 6 (.look 7 (.look 8 (.look 9 (.look 10 (.look 11 (.act 12 .nil))))))))))))) Try.mixed (by kernel_rfl) ?_
  refine WQ_val rfl gd0 (o_move (v := .pointer w1) (by exact e0)) rfl ?_
  refine WQ_val rfl gd0 (o_move (v := .pointer w1) (by exact e0)) rfl ?_
  refine WQ_val rfl gd0 (o_nilCheck (by exact (congrArg Value.pointer q4))) rfl ?_
  refine WQ_val rfl gd0 (o_fieldAddr 4 Try.underlying46 rfl Try.sizeOf3 rfl rfl rfl) rfl ?_
  obtain ⟨x33, hc34, h⟩ := h
  refine WQ_look (fun w => w.cell? (p3.add 4) = some (.int .i64 x33)) rfl gd0 (fun w hc => (o_load Try.isAgg3 rfl hc)) hc34 rfl ?_
  refine WQ_val rfl gd0 (o_move (v := .pointer w1) (by exact e0)) rfl ?_
  refine WQ_val rfl gd0 (o_nilCheck (by exact (congrArg Value.pointer q4))) rfl ?_
  refine WQ_val rfl gd0 (o_fieldAddr 3 Try.underlying46 rfl Try.sizeOf3 rfl rfl rfl) rfl ?_
  obtain ⟨x35, hc36, h⟩ := h
  refine WQ_look (fun w => w.cell? (p3.add 3) = some (.int .i64 x35)) rfl gd0 (fun w hc => (o_load Try.isAgg3 rfl hc)) hc36 rfl ?_
  refine WQ_val rfl gd0 (o_max2 rfl rfl) rfl ?_
  refine WQ_val rfl gd0 (o_nilCheck (by exact (congrArg Value.pointer q4))) rfl ?_
  refine WQ_val rfl gd0 (o_fieldAddr 4 Try.underlying46 rfl Try.sizeOf3 rfl rfl rfl) rfl ?_
  obtain ⟨c38, h⟩ := h
  refine WQ_do rfl gd0 (o_store (v := .int .i64 (max x33 x35)) Try.sizeOf3 rfl rfl rfl c38) (by exact ⟨⟨trivial, depT (by kernel_rfl)⟩, depT (by kernel_rfl)⟩) ?_
  generalize hw37 : World.setCell w31.drew (p3.add 4) (.int .i64 (max x33 x35)) = w37 at h ⊢
  try dsimp only at h
  refine WQ_nil ?_
  refine nrm ?_
  refine WC_seq ?_
  refine WC_region ?_
  refine WL_val gd0 ((o_move (v := .int .i64 (Int.tmod (IntKind.i64.wrap (x5 + x7)) 256)) rfl) _) rfl ?_
  refine WL_val gd0 ((o_move (v := .slice x_a24 x_n25 x_c26) rfl) _) rfl ?_
  refine WL_val gd0 ((o_assign (v := .int .i64 (Int.tmod (IntKind.i64.wrap (x5 + x7)) 256)) rfl) _) rfl ?_
  refine WL_val gd0 ((o_assign (v := .slice x_a24 x_n25 x_c26) rfl) _) rfl ?_
  refine WL_nil ?_
  refine nrm ?_
  refine WC_ret ?_
  refine rtE ?_
  exact gv2 rfl rfl rfl h

/-- (*spacecraft farm.Farm).none -/
def F22 (f1 : Option Addr) (w2 : World) (k : Value → World → Prop) : Prop :=
  if (f1).isNone = true then
  k (.bool true) w2
else
  ∃ (p4 : Addr), f1 = some p4 ∧ ∃ (x6 : Int), w2.cell? (p4.add 1) = some (.int .i64 x6) ∧ k (.bool (decide (x6 = 0))) w2
set_option maxRecDepth 100000 in
set_option maxHeartbeats 2000000 in
theorem w22 (f1 : Option Addr) (w2 : World) (k : Value → World → Prop) (h : F22 f1 w2 k) : Does Try.prog 22 #[.pointer f1] w2 k := by
  refine enter 12 Try.func22 rfl rfl rfl ?_
  intro ρ hρ
  have e0 := hρ 0 _ rfl
  unfold F22 at h
  refine WC_seq ?_
  refine WC_region ?_
  refine WL_val gd0 ((o_assign (v := .bool false) rfl) _) rfl ?_
  refine WL_nil ?_
  refine nrm ?_
  refine WC_seq ?_
  refine WC_region ?_
  refine WL_val gd0 ((o_move (v := .pointer f1) (by exact e0)) _) rfl ?_
  refine WL_val gd0 ((o_eqlPtrNil Try.underlying26 rfl rfl) _) rfl ?_
  refine WL_val gd0 ((o_move (v := .bool ((f1).isNone)) rfl) _) rfl ?_
  refine bsplit ((f1).isNone) (fun hb3 => ?_) (fun hb3 => ?_)
  · rw [if_pos hb3] at h
    refine WL_skip (gdN (b := ((f1).isNone)) 5 rfl rfl hb3) rfl ?_
    refine WL_skip (gdN (b := ((f1).isNone)) 5 rfl rfl hb3) rfl ?_
    refine WL_skip (gdN (b := ((f1).isNone)) 5 rfl rfl hb3) rfl ?_
    refine WL_skip (gdN (b := ((f1).isNone)) 5 rfl rfl hb3) rfl ?_
    refine WL_skip (gdN (b := ((f1).isNone)) 5 rfl rfl hb3) rfl ?_
    refine WL_val gd0 ((o_pickT (v := .bool true) rfl hb3 rfl) _) rfl ?_
    refine WL_val gd0 ((o_assign (v := .bool true) rfl) _) rfl ?_
    refine WL_nil ?_
    refine nrm ?_
    refine WC_ret ?_
    refine rtE ?_
    exact gv1 rfl rfl h
  · rw [if_neg (neT hb3)] at h
    refine WL_val (gdY (b := ((f1).isNone)) 5 rfl rfl hb3) ((o_move (v := .pointer f1) (by exact e0)) _) rfl ?_
    obtain ⟨p4, q5, h⟩ := h
    refine WL_val (gdY (b := ((f1).isNone)) 5 rfl rfl hb3) ((o_nilCheck (by exact (congrArg Value.pointer q5))) _) rfl ?_
    refine WL_val (gdY (b := ((f1).isNone)) 5 rfl rfl hb3) ((o_fieldAddr 1 Try.underlying51 rfl Try.sizeOf3 rfl rfl rfl) _) rfl ?_
    obtain ⟨x6, hc7, h⟩ := h
    refine WL_val (gdY (b := ((f1).isNone)) 5 rfl rfl hb3) (o_load Try.isAgg3 rfl hc7) rfl ?_
    refine WL_val (gdY (b := ((f1).isNone)) 5 rfl rfl hb3) ((o_eql rfl rfl) _) rfl ?_
    refine WL_val gd0 ((o_pickF (v := .bool (decide (x6 = 0))) rfl hb3 rfl) _) rfl ?_
    refine WL_val gd0 ((o_assign (v := .bool (decide (x6 = 0))) rfl) _) rfl ?_
    refine WL_nil ?_
    refine nrm ?_
    refine WC_ret ?_
    refine rtE ?_
    exact gv1 rfl rfl h

def F23_j2 (p10 : Addr) (t19 : Bool) (w20 : World) (k : Value → World → Prop) : Prop :=
  if t19 = true then
  k (.bool false) w20
else
  ∃ (x_a22 : Option Addr) (x_n23 x_c24 : Nat), w20.cell? (p10.add 5) = some (.slice x_a22 x_n23 x_c24) ∧ if (x_n23 : Int) < 1 then
    k (.bool false) w20
  else
    ∃ (x_a27 : Option Addr) (x_n28 x_c29 : Nat), w20.cell? (p10.add 5) = some (.slice x_a27 x_n28 x_c29) ∧ if 1017 < (x_n28 : Int) then
      k (.bool false) w20
    else
      ∃ (x32 : Bool), w20.cell? p10 = some (.bool x32) ∧ if x32 = true then
        k (.bool true) w20
      else
        ∃ (x35 : Bool), w20.cell? (p10.add 1) = some (.bool x35) ∧ k (.bool (!x35)) w20
def F23_j1 (p10 : Addr) (t14 : Bool) (w15 : World) (k : Value → World → Prop) : Prop :=
  if t14 = true then
  k (.bool false) w15
else
  ∃ (x37 : Int), w15.cell? (p10.add 4) = some (.int .i64 x37) ∧ if x37 < 0 then
    F23_j2 p10 true w15 k
  else
    ∃ (x40 : Int), w15.cell? (p10.add 4) = some (.int .i64 x40) ∧ F23_j2 p10 (decide (255 < x40)) w15 k
def F23_j3 (p10 : Addr) (t44 : Bool) (w45 : World) (k : Value → World → Prop) : Prop :=
  if t44 = true then
  F23_j1 p10 t44 w45 k
else
  ∃ (x47 : Int), w45.cell? (p10.add 3) = some (.int .i64 x47) ∧ if x47 < 0 then
    F23_j1 p10 true w45 k
  else
    ∃ (x50 : Int), w45.cell? (p10.add 3) = some (.int .i64 x50) ∧ F23_j1 p10 (decide (7 < x50)) w45 k
/-- spacecraft tcframe.Valid -/
def F23 (f1 : Bool) (f2 : Bool) (f3 : Int) (f4 : Int) (f5 : Int) (f_a6 : Option Addr) (f_n7 : Nat) (f_c8 : Nat) (w9 : World) (k : Value → World → Prop) : Prop :=
  New w9 32 [.bool f1, .bool f2, .int .i64 f3, .int .i64 f4, .int .i64 f5, .slice f_a6 f_n7 f_c8] (fun p10 w11 => ∃ (x52 : Int), w11.cell? (p10.add 2) = some (.int .i64 x52) ∧ if x52 < 0 then
  F23_j3 p10 true w11 k
else
  ∃ (x55 : Int), w11.cell? (p10.add 2) = some (.int .i64 x55) ∧ F23_j3 p10 (decide (1023 < x55)) w11 k)
set_option maxRecDepth 100000 in
set_option maxHeartbeats 2000000 in
theorem w23 (f1 : Bool) (f2 : Bool) (f3 : Int) (f4 : Int) (f5 : Int) (f_a6 : Option Addr) (f_n7 : Nat) (f_c8 : Nat) (w9 : World) (k : Value → World → Prop) (h : F23 f1 f2 f3 f4 f5 f_a6 f_n7 f_c8 w9 k) : Does Try.prog 23 #[.agg #[.bool f1, .bool f2, .int .i64 f3, .int .i64 f4, .int .i64 f5, .slice f_a6 f_n7 f_c8]] w9 k := by
  refine enter 46 Try.func23 rfl rfl rfl ?_
  intro ρ hρ
  have e0 := hρ 0 _ rfl
  unfold F23 at h
  refine WC_seq ?_
  refine WC_region ?_
  have h := New.out h
  refine WL_val gd0 (o_box (v := .agg #[.bool f1, .bool f2, .int .i64 f3, .int .i64 f4, .int .i64 f5, .slice f_a6 f_n7 f_c8]) (cs := [.bool f1, .bool f2, .int .i64 f3, .int .i64 f4, .int .i64 f5, .slice f_a6 f_n7 f_c8]) (by exact e0) rfl) rfl ?_
  generalize hp10 : fresh w9 = p10 at h ⊢
  generalize hw11 : push w9 32 [.bool f1, .bool f2, .int .i64 f3, .int .i64 f4, .int .i64 f5, .slice f_a6 f_n7 f_c8] = w11 at h ⊢
  try dsimp only at h
  refine WL_val gd0 ((o_assign (v := .bool false) rfl) _) rfl ?_
  refine WL_nil ?_
  refine nrm ?_
  refine WC_seq ?_
  refine WC_block ?_
  refine WC_cut (fun ρ w' => ∃ (t14 : Bool), ρ 3 = .bool t14 ∧ ρ 1 = .pointer (some p10) ∧ F23_j1 p10 t14 w' k) ?_ ?_
  · refine WC_cut (fun ρ w' => ∃ (t44 : Bool), ρ 3 = .bool t44 ∧ ρ 1 = .pointer (some p10) ∧ F23_j3 p10 t44 w' k) ?_ ?_
    · refine WC_region ?_
      refine WL_val gd0 ((o_fieldAddr 2 Try.underlying32 rfl Try.sizeOf3 rfl rfl rfl) _) rfl ?_
      obtain ⟨x52, hc53, h⟩ := h
      refine WL_val gd0 (o_load Try.isAgg3 rfl hc53) rfl ?_
      refine WL_val gd0 ((o_lss rfl rfl) _) rfl ?_
      refine WL_val gd0 ((o_move (v := .bool (decide (x52 < 0))) rfl) _) rfl ?_
      refine bsplit (decide (x52 < 0)) (fun hb54 => ?_) (fun hb54 => ?_)
      · rw [if_pos (of_decide_eq_true hb54)] at h
        refine WL_skip (gdN (b := (decide (x52 < 0))) 7 rfl rfl hb54) rfl ?_
        refine WL_skip (gdN (b := (decide (x52 < 0))) 7 rfl rfl hb54) rfl ?_
        refine WL_skip (gdN (b := (decide (x52 < 0))) 7 rfl rfl hb54) rfl ?_
        refine WL_val gd0 ((o_pickT (v := .bool true) rfl hb54 rfl) _) rfl ?_
        refine WL_val gd0 ((o_assign (v := .bool true) rfl) _) rfl ?_
        refine WL_nil ?_
        refine nrm ?_
        exact ⟨_, rfl, rfl, h⟩
      · rw [if_neg (of_decide_eq_false hb54)] at h
        refine WL_val (gdY (b := (decide (x52 < 0))) 7 rfl rfl hb54) ((o_fieldAddr 2 Try.underlying32 rfl Try.sizeOf3 rfl rfl rfl) _) rfl ?_
        obtain ⟨x55, hc56, h⟩ := h
        refine WL_val (gdY (b := (decide (x52 < 0))) 7 rfl rfl hb54) (o_load Try.isAgg3 rfl hc56) rfl ?_
        refine WL_val (gdY (b := (decide (x52 < 0))) 7 rfl rfl hb54) ((o_gtr rfl rfl) _) rfl ?_
        refine WL_val gd0 ((o_pickF (v := .bool (decide (1023 < x55))) rfl hb54 rfl) _) rfl ?_
        refine WL_val gd0 ((o_assign (v := .bool (decide (1023 < x55))) rfl) _) rfl ?_
        refine WL_nil ?_
        refine nrm ?_
        exact ⟨_, rfl, rfl, h⟩
    · rintro ρ w45 ⟨t44, e3_43, e1_42, h⟩
      unfold F23_j3 at h
      refine WC_cond (t := t44) (by exact e3_43) (fun hb46 => ?_) (fun hb46 => ?_)
      · rw [if_pos hb46] at h
        refine WC_skip ?_
        refine nrm ?_
        exact ⟨_, e3_43, e1_42, h⟩
      · rw [if_neg (neT hb46)] at h
        refine WC_region ?_
        refine WL_val gd0 ((o_fieldAddr 3 Try.underlying32 rfl Try.sizeOf3 rfl rfl (by exact e1_42)) _) rfl ?_
        obtain ⟨x47, hc48, h⟩ := h
        refine WL_val gd0 (o_load Try.isAgg3 rfl hc48) rfl ?_
        refine WL_val gd0 ((o_lss rfl rfl) _) rfl ?_
        refine WL_val gd0 ((o_move (v := .bool (decide (x47 < 0))) rfl) _) rfl ?_
        refine bsplit (decide (x47 < 0)) (fun hb49 => ?_) (fun hb49 => ?_)
        · rw [if_pos (of_decide_eq_true hb49)] at h
          refine WL_skip (gdN (b := (decide (x47 < 0))) 15 rfl rfl hb49) rfl ?_
          refine WL_skip (gdN (b := (decide (x47 < 0))) 15 rfl rfl hb49) rfl ?_
          refine WL_skip (gdN (b := (decide (x47 < 0))) 15 rfl rfl hb49) rfl ?_
          refine WL_val gd0 ((o_pickT (v := .bool true) rfl hb49 rfl) _) rfl ?_
          refine WL_val gd0 ((o_assign (v := .bool true) rfl) _) rfl ?_
          refine WL_nil ?_
          refine nrm ?_
          exact ⟨_, rfl, e1_42, h⟩
        · rw [if_neg (of_decide_eq_false hb49)] at h
          refine WL_val (gdY (b := (decide (x47 < 0))) 15 rfl rfl hb49) ((o_fieldAddr 3 Try.underlying32 rfl Try.sizeOf3 rfl rfl (by exact e1_42)) _) rfl ?_
          obtain ⟨x50, hc51, h⟩ := h
          refine WL_val (gdY (b := (decide (x47 < 0))) 15 rfl rfl hb49) (o_load Try.isAgg3 rfl hc51) rfl ?_
          refine WL_val (gdY (b := (decide (x47 < 0))) 15 rfl rfl hb49) ((o_gtr rfl rfl) _) rfl ?_
          refine WL_val gd0 ((o_pickF (v := .bool (decide (7 < x50))) rfl hb49 rfl) _) rfl ?_
          refine WL_val gd0 ((o_assign (v := .bool (decide (7 < x50))) rfl) _) rfl ?_
          refine WL_nil ?_
          refine nrm ?_
          exact ⟨_, rfl, e1_42, h⟩
  · rintro ρ w15 ⟨t14, e3_13, e1_12, h⟩
    unfold F23_j1 at h
    refine WC_cond (t := t14) (by exact e3_13) (fun hb16 => ?_) (fun hb16 => ?_)
    · rw [if_pos hb16] at h
      refine WC_seq ?_
      refine WC_region ?_
      refine WL_val gd0 ((o_assign (v := .bool false) rfl) _) rfl ?_
      refine WL_nil ?_
      refine nrm ?_
      refine WC_ret ?_
      refine rtB ?_
      refine rtT ?_
      refine rtE ?_
      exact gv1 rfl rfl h
    · rw [if_neg (neT hb16)] at h
      refine WC_seq ?_
      refine WC_cut (fun ρ w' => ∃ (t19 : Bool), ρ 20 = .bool t19 ∧ ρ 1 = .pointer (some p10) ∧ F23_j2 p10 t19 w' k) ?_ ?_
      · refine WC_region ?_
        refine WL_val gd0 ((o_fieldAddr 4 Try.underlying32 rfl Try.sizeOf3 rfl rfl (by exact e1_12)) _) rfl ?_
        obtain ⟨x37, hc38, h⟩ := h
        refine WL_val gd0 (o_load Try.isAgg3 rfl hc38) rfl ?_
        refine WL_val gd0 ((o_lss rfl rfl) _) rfl ?_
        refine WL_val gd0 ((o_move (v := .bool (decide (x37 < 0))) rfl) _) rfl ?_
        refine bsplit (decide (x37 < 0)) (fun hb39 => ?_) (fun hb39 => ?_)
        · rw [if_pos (of_decide_eq_true hb39)] at h
          refine WL_skip (gdN (b := (decide (x37 < 0))) 24 rfl rfl hb39) rfl ?_
          refine WL_skip (gdN (b := (decide (x37 < 0))) 24 rfl rfl hb39) rfl ?_
          refine WL_skip (gdN (b := (decide (x37 < 0))) 24 rfl rfl hb39) rfl ?_
          refine WL_val gd0 ((o_pickT (v := .bool true) rfl hb39 rfl) _) rfl ?_
          refine WL_val gd0 ((o_assign (v := .bool true) rfl) _) rfl ?_
          refine WL_nil ?_
          refine nrm ?_
          exact ⟨_, rfl, e1_12, h⟩
        · rw [if_neg (of_decide_eq_false hb39)] at h
          refine WL_val (gdY (b := (decide (x37 < 0))) 24 rfl rfl hb39) ((o_fieldAddr 4 Try.underlying32 rfl Try.sizeOf3 rfl rfl (by exact e1_12)) _) rfl ?_
          obtain ⟨x40, hc41, h⟩ := h
          refine WL_val (gdY (b := (decide (x37 < 0))) 24 rfl rfl hb39) (o_load Try.isAgg3 rfl hc41) rfl ?_
          refine WL_val (gdY (b := (decide (x37 < 0))) 24 rfl rfl hb39) ((o_gtr rfl rfl) _) rfl ?_
          refine WL_val gd0 ((o_pickF (v := .bool (decide (255 < x40))) rfl hb39 rfl) _) rfl ?_
          refine WL_val gd0 ((o_assign (v := .bool (decide (255 < x40))) rfl) _) rfl ?_
          refine WL_nil ?_
          refine nrm ?_
          exact ⟨_, rfl, e1_12, h⟩
      · rintro ρ w20 ⟨t19, e20_18, e1_17, h⟩
        unfold F23_j2 at h
        refine WC_cond (t := t19) (by exact e20_18) (fun hb21 => ?_) (fun hb21 => ?_)
        · rw [if_pos hb21] at h
          refine WC_skip ?_
          refine nrm ?_
          refine WC_cond (t := t19) (by exact e20_18) (fun _ => ?_) (fun hx => by rw [(hb21 : t19 = true)] at hx; cases hx)
          refine WC_seq ?_
          refine WC_region ?_
          refine WL_val gd0 ((o_assign (v := .bool false) rfl) _) rfl ?_
          refine WL_nil ?_
          refine nrm ?_
          refine WC_ret ?_
          refine rtB ?_
          refine rtT ?_
          refine rtE ?_
          exact gv1 rfl rfl h
        · rw [if_neg (neT hb21)] at h
          refine WC_region ?_
          refine WL_val gd0 ((o_fieldAddr 5 Try.underlying32 rfl Try.sizeOf28 rfl rfl (by exact e1_17)) _) rfl ?_
          obtain ⟨x_a22, x_n23, x_c24, hc25, h⟩ := h
          refine WL_val gd0 (o_load Try.isAgg28 rfl hc25) rfl ?_
          refine WL_val gd0 ((o_len Try.underlying28 rfl) _) rfl ?_
          refine WL_val gd0 ((o_lss rfl rfl) _) rfl ?_
          refine WL_val gd0 ((o_move (v := .bool (decide ((x_n23 : Int) < 1))) rfl) _) rfl ?_
          refine bsplit (decide ((x_n23 : Int) < 1)) (fun hb26 => ?_) (fun hb26 => ?_)
          · rw [if_pos (of_decide_eq_true hb26)] at h
            refine WL_skip (gdN (b := (decide ((x_n23 : Int) < 1))) 33 rfl rfl hb26) rfl ?_
            refine WL_skip (gdN (b := (decide ((x_n23 : Int) < 1))) 33 rfl rfl hb26) rfl ?_
            refine WL_skip (gdN (b := (decide ((x_n23 : Int) < 1))) 33 rfl rfl hb26) rfl ?_
            refine WL_skip (gdN (b := (decide ((x_n23 : Int) < 1))) 33 rfl rfl hb26) rfl ?_
            refine WL_val gd0 ((o_pickT (v := .bool true) rfl hb26 rfl) _) rfl ?_
            refine WL_val gd0 ((o_assign (v := .bool true) rfl) _) rfl ?_
            refine WL_nil ?_
            refine nrm ?_
            refine WC_cond (t := true) rfl (fun _ => ?_) (fun hx => by rw [(rfl : true = true)] at hx; cases hx)
            refine WC_seq ?_
            refine WC_region ?_
            refine WL_val gd0 ((o_assign (v := .bool false) rfl) _) rfl ?_
            refine WL_nil ?_
            refine nrm ?_
            refine WC_ret ?_
            refine rtB ?_
            refine rtT ?_
            refine rtE ?_
            exact gv1 rfl rfl h
          · rw [if_neg (of_decide_eq_false hb26)] at h
            refine WL_val (gdY (b := (decide ((x_n23 : Int) < 1))) 33 rfl rfl hb26) ((o_fieldAddr 5 Try.underlying32 rfl Try.sizeOf28 rfl rfl (by exact e1_17)) _) rfl ?_
            obtain ⟨x_a27, x_n28, x_c29, hc30, h⟩ := h
            refine WL_val (gdY (b := (decide ((x_n23 : Int) < 1))) 33 rfl rfl hb26) (o_load Try.isAgg28 rfl hc30) rfl ?_
            refine WL_val (gdY (b := (decide ((x_n23 : Int) < 1))) 33 rfl rfl hb26) ((o_len Try.underlying28 rfl) _) rfl ?_
            refine WL_val (gdY (b := (decide ((x_n23 : Int) < 1))) 33 rfl rfl hb26) ((o_gtr rfl rfl) _) rfl ?_
            refine WL_val gd0 ((o_pickF (v := .bool (decide (1017 < (x_n28 : Int)))) rfl hb26 rfl) _) rfl ?_
            refine WL_val gd0 ((o_assign (v := .bool (decide (1017 < (x_n28 : Int)))) rfl) _) rfl ?_
            refine WL_nil ?_
            refine nrm ?_
            refine WC_cond (t := (decide (1017 < (x_n28 : Int)))) rfl (fun hb31 => ?_) (fun hb31 => ?_)
            · rw [if_pos (of_decide_eq_true hb31)] at h
              refine WC_seq ?_
              refine WC_region ?_
              refine WL_val gd0 ((o_assign (v := .bool false) rfl) _) rfl ?_
              refine WL_nil ?_
              refine nrm ?_
              refine WC_ret ?_
              refine rtB ?_
              refine rtT ?_
              refine rtE ?_
              exact gv1 rfl rfl h
            · rw [if_neg (of_decide_eq_false hb31)] at h
              refine WC_skip ?_
              refine nrmB ?_
              refine nrm ?_
              refine WC_seq ?_
              refine WC_region ?_
              refine WL_val gd0 ((o_fieldAddr0 Try.underlying32 rfl Try.sizeOf4 rfl rfl (by exact e1_17)) _) rfl ?_
              obtain ⟨x32, hc33, h⟩ := h
              refine WL_val gd0 (o_load Try.isAgg4 rfl hc33) rfl ?_
              refine WL_val gd0 ((o_move (v := .bool x32) rfl) _) rfl ?_
              refine bsplit x32 (fun hb34 => ?_) (fun hb34 => ?_)
              · rw [if_pos hb34] at h
                refine WL_skip (gdN (b := x32) 41 rfl rfl hb34) rfl ?_
                refine WL_skip (gdN (b := x32) 41 rfl rfl hb34) rfl ?_
                refine WL_skip (gdN (b := x32) 41 rfl rfl hb34) rfl ?_
                refine WL_val gd0 ((o_pickT (v := .bool true) rfl hb34 rfl) _) rfl ?_
                refine WL_val gd0 ((o_assign (v := .bool true) rfl) _) rfl ?_
                refine WL_nil ?_
                refine nrm ?_
                refine WC_ret ?_
                refine rtE ?_
                exact gv1 rfl rfl h
              · rw [if_neg (neT hb34)] at h
                refine WL_val (gdY (b := x32) 41 rfl rfl hb34) ((o_fieldAddr 1 Try.underlying32 rfl Try.sizeOf4 rfl rfl (by exact e1_17)) _) rfl ?_
                obtain ⟨x35, hc36, h⟩ := h
                refine WL_val (gdY (b := x32) 41 rfl rfl hb34) (o_load Try.isAgg4 rfl hc36) rfl ?_
                refine WL_val (gdY (b := x32) 41 rfl rfl hb34) ((o_not rfl) _) rfl ?_
                refine WL_val gd0 ((o_pickF (v := .bool (!x35)) rfl hb34 rfl) _) rfl ?_
                refine WL_val gd0 ((o_assign (v := .bool (!x35)) rfl) _) rfl ?_
                refine WL_nil ?_
                refine nrm ?_
                refine WC_ret ?_
                refine rtE ?_
                exact gv1 rfl rfl h

def F24_j1 (f1 : Option Addr) (w27 : World) (k : Value → World → Prop) : Prop :=
  ∃ (p28 : Addr), f1 = some p28 ∧ Put w27 ((p28.add 2).add 2) (.bool false) (fun w30 => Put w30 ((p28.add 2).add 3) (.bool false) (fun w32 => Does Try.prog 25 #[.pointer f1] w32 (fun v w34 => v = .tuple #[] ∧ k (.int .i64 5) w34)))
/-- (*spacecraft farm.Farm).control -/
def F24 (f1 : Option Addr) (x2 : Bool) (x3 : Bool) (x4 : Int) (x5 : Int) (x6 : Int) (x_a7 : Option Addr) (x_n8 : Nat) (x_c9 : Nat) (w10 : World) (k : Value → World → Prop) : Prop :=
  New w10 32 [.bool x2, .bool x3, .int .i64 x4, .int .i64 x5, .int .i64 x6, .slice x_a7 x_n8 x_c9] (fun p11 w12 => ∃ (x13 x14 : Bool) (x15 x16 x17 : Int) (x_a18 : Option Addr) (x_n19 x_c20 : Nat), Cells w12 p11 0 [.bool x13, .bool x14, .int .i64 x15, .int .i64 x16, .int .i64 x17, .slice x_a18 x_n19 x_c20] ∧ Does Try.prog 31 #[.agg #[.bool x13, .bool x14, .int .i64 x15, .int .i64 x16, .int .i64 x17, .slice x_a18 x_n19 x_c20]] w12 (fun v w22 => ∃ (r23 r24 : Int) (r25 : Bool), v = .tuple #[.int .i64 r23, .int .i64 r24, .bool r25] ∧ if (!r25) = true then
  k (.int .i64 0) w22
else
  if r23 = 0 then
    ∃ (p37 : Addr), f1 = some p37 ∧ Put w22 ((p37.add 2).add 1) (.bool false) (fun w39 => F24_j1 f1 w39 k)
  else
    ∃ (p41 : Addr), f1 = some p41 ∧ ∃ (t43 : Bool), w22.cell? ((p41.add 2).add 1) = some (.bool t43) ∧ if t43 = true then
      k (.int .i64 4) w22
    else
      Put w22 ((p41.add 2).add 5) (.int .i64 r24) (fun w46 => F24_j1 f1 w46 k)))
set_option maxRecDepth 100000 in
set_option maxHeartbeats 2000000 in
theorem w24 (f1 : Option Addr) (x2 : Bool) (x3 : Bool) (x4 : Int) (x5 : Int) (x6 : Int) (x_a7 : Option Addr) (x_n8 : Nat) (x_c9 : Nat) (w10 : World) (k : Value → World → Prop) (h : F24 f1 x2 x3 x4 x5 x6 x_a7 x_n8 x_c9 w10 k) : Does Try.prog 24 #[.pointer f1, .agg #[.bool x2, .bool x3, .int .i64 x4, .int .i64 x5, .int .i64 x6, .slice x_a7 x_n8 x_c9]] w10 k := by
  refine enter 45 Try.func24 rfl rfl rfl ?_
  intro ρ hρ
  have e0 := hρ 0 _ rfl
  have e1 := hρ 1 _ rfl
  unfold F24 at h
  refine WC_seq ?_
  refine WC_region ?_
  have h := New.out h
  refine WL_val gd0 (o_box (v := .agg #[.bool x2, .bool x3, .int .i64 x4, .int .i64 x5, .int .i64 x6, .slice x_a7 x_n8 x_c9]) (cs := [.bool x2, .bool x3, .int .i64 x4, .int .i64 x5, .int .i64 x6, .slice x_a7 x_n8 x_c9]) (by exact e1) rfl) rfl ?_
  generalize hp11 : fresh w10 = p11 at h ⊢
  generalize hw12 : push w10 32 [.bool x2, .bool x3, .int .i64 x4, .int .i64 x5, .int .i64 x6, .slice x_a7 x_n8 x_c9] = w12 at h ⊢
  try dsimp only at h
  refine WL_val gd0 ((o_assign (v := .int .i64 0) rfl) _) rfl ?_
  refine WL_nil ?_
  refine nrm ?_
  refine WC_seq ?_
  refine WC_region ?_
  obtain ⟨x13, x14, x15, x16, x17, x_a18, x_n19, x_c20, hc21, h⟩ := h
  refine WL_val gd0 (o_loadAgg (vs := [.bool x13, .bool x14, .int .i64 x15, .int .i64 x16, .int .i64 x17, .slice x_a18 x_n19 x_c20]) Try.isAgg32 Try.sizeOf32 rfl hc21) rfl ?_
  refine WL_call gd0 (o_call Try.call31 (argCons rfl argNil) _) rfl (h.mono ?_)
  rintro _ w22 ⟨r23, r24, r25, rfl, h⟩
  refine WL_val gd0 ((o_move (v := .tuple #[.int .i64 r23, .int .i64 r24, .bool r25]) rfl) _) rfl ?_
  refine WL_val gd0 ((o_extract (vs := [.int .i64 r23, .int .i64 r24, .bool r25]) (r := .int .i64 r23) rfl rfl) _) rfl ?_
  refine WL_val gd0 ((o_extract (vs := [.int .i64 r23, .int .i64 r24, .bool r25]) (r := .int .i64 r24) rfl rfl) _) rfl ?_
  refine WL_val gd0 ((o_extract (vs := [.int .i64 r23, .int .i64 r24, .bool r25]) (r := .bool r25) rfl rfl) _) rfl ?_
  refine WL_val gd0 ((o_assign (v := .int .i64 r23) rfl) _) rfl ?_
  refine WL_val gd0 ((o_assign (v := .int .i64 r24) rfl) _) rfl ?_
  refine WL_val gd0 ((o_assign (v := .bool r25) rfl) _) rfl ?_
  refine WL_nil ?_
  refine nrm ?_
  refine WC_cut (fun ρ w' => ρ 0 = .pointer f1 ∧ F24_j1 f1 w' k) ?_ ?_
  · refine WC_block ?_
    refine WC_seq ?_
    refine WC_region ?_
    refine WL_val gd0 ((o_move (v := .bool r25) rfl) _) rfl ?_
    refine WL_val gd0 ((o_not rfl) _) rfl ?_
    refine WL_val gd0 ((o_assign (v := .bool (!r25)) rfl) _) rfl ?_
    refine WL_nil ?_
    refine nrm ?_
    refine WC_cond (t := (!r25)) rfl (fun hb35 => ?_) (fun hb35 => ?_)
    · rw [if_pos hb35] at h
      refine WC_seq ?_
      refine WC_region ?_
      refine WL_val gd0 ((o_assign (v := .int .i64 0) rfl) _) rfl ?_
      refine WL_nil ?_
      refine nrm ?_
      refine WC_ret ?_
      refine rtB ?_
      refine rtT ?_
      refine rtE ?_
      exact gv1 rfl rfl h
    · rw [if_neg (neT hb35)] at h
      refine WC_seq ?_
      refine WC_region ?_
      refine WL_val gd0 ((o_move (v := .int .i64 r23) rfl) _) rfl ?_
      refine WL_val gd0 ((o_eql rfl rfl) _) rfl ?_
      refine WL_val gd0 ((o_assign (v := .bool (decide (r23 = 0))) rfl) _) rfl ?_
      refine WL_nil ?_
      refine nrm ?_
      refine WC_cond (t := (decide (r23 = 0))) rfl (fun hb36 => ?_) (fun hb36 => ?_)
      · rw [if_pos (of_decide_eq_true hb36)] at h
        refine WC_region ?_
        refine WL_val gd0 ((o_move (v := .pointer f1) (by exact e0)) _) rfl ?_
        obtain ⟨p37, q38, h⟩ := h
        refine WL_val gd0 ((o_nilCheck (by exact (congrArg Value.pointer q38))) _) rfl ?_
        refine WL_val gd0 ((o_fieldAddr 2 Try.underlying51 rfl Try.sizeOf40 rfl rfl rfl) _) rfl ?_
        refine WL_val gd0 ((o_fieldAddr 1 Try.underlying40 rfl Try.sizeOf4 rfl rfl rfl) _) rfl ?_
        obtain ⟨c40, h⟩ := h
        refine WL_act gd0 (o_store (v := .bool false) Try.sizeOf4 rfl rfl rfl c40) ?_
        generalize hw39 : World.setCell w22 ((p37.add 2).add 1) (.bool false) = w39 at h ⊢
        try dsimp only at h
        refine WL_nil ?_
        refine nrmB ?_
        refine nrm ?_
        exact ⟨e0, h⟩
      · rw [if_neg (of_decide_eq_false hb36)] at h
        refine WC_seq ?_
        refine WC_region ?_
        refine WL_val gd0 ((o_move (v := .pointer f1) (by exact e0)) _) rfl ?_
        obtain ⟨p41, q42, h⟩ := h
        refine WL_val gd0 ((o_nilCheck (by exact (congrArg Value.pointer q42))) _) rfl ?_
        refine WL_val gd0 ((o_fieldAddr 2 Try.underlying51 rfl Try.sizeOf40 rfl rfl rfl) _) rfl ?_
        refine WL_val gd0 ((o_fieldAddr 1 Try.underlying40 rfl Try.sizeOf4 rfl rfl rfl) _) rfl ?_
        obtain ⟨t43, hc44, h⟩ := h
        refine WL_val gd0 (o_load Try.isAgg4 rfl hc44) rfl ?_
        refine WL_val gd0 ((o_assign (v := .bool t43) rfl) _) rfl ?_
        refine WL_nil ?_
        refine nrm ?_
        refine WC_cond (t := t43) rfl (fun hb45 => ?_) (fun hb45 => ?_)
        · rw [if_pos hb45] at h
          refine WC_seq ?_
          refine WC_region ?_
          refine WL_val gd0 ((o_assign (v := .int .i64 4) rfl) _) rfl ?_
          refine WL_nil ?_
          refine nrm ?_
          refine WC_ret ?_
          refine rtB ?_
          refine rtT ?_
          refine rtE ?_
          exact gv1 rfl rfl h
        · rw [if_neg (neT hb45)] at h
          refine WC_region ?_
          refine WL_val gd0 ((o_move (v := .pointer f1) (by exact e0)) _) rfl ?_
          refine WL_val gd0 ((o_move (v := .int .i64 r24) rfl) _) rfl ?_
          refine WL_val gd0 ((o_nilCheck (by exact (congrArg Value.pointer q42))) _) rfl ?_
          refine WL_val gd0 ((o_fieldAddr 2 Try.underlying51 rfl Try.sizeOf40 rfl rfl rfl) _) rfl ?_
          refine WL_val gd0 ((o_fieldAddr 5 Try.underlying40 rfl Try.sizeOf3 rfl rfl rfl) _) rfl ?_
          obtain ⟨c47, h⟩ := h
          refine WL_act gd0 (o_store (v := .int .i64 r24) Try.sizeOf3 rfl rfl rfl c47) ?_
          generalize hw46 : World.setCell w22 ((p41.add 2).add 5) (.int .i64 r24) = w46 at h ⊢
          try dsimp only at h
          refine WL_nil ?_
          refine nrmB ?_
          refine nrm ?_
          exact ⟨e0, h⟩
  · rintro ρ w27 ⟨e0_26, h⟩
    unfold F24_j1 at h
    refine WC_seq ?_
    refine WC_region ?_
    refine WL_val gd0 ((o_move (v := .pointer f1) (by exact e0_26)) _) rfl ?_
    refine WL_val gd0 ((o_move (v := .pointer f1) (by exact e0_26)) _) rfl ?_
    obtain ⟨p28, q29, h⟩ := h
    refine WL_val gd0 ((o_nilCheck (by exact (congrArg Value.pointer q29))) _) rfl ?_
    refine WL_val gd0 ((o_fieldAddr 2 Try.underlying51 rfl Try.sizeOf40 rfl rfl rfl) _) rfl ?_
    refine WL_val gd0 ((o_fieldAddr 2 Try.underlying40 rfl Try.sizeOf4 rfl rfl rfl) _) rfl ?_
    obtain ⟨c31, h⟩ := h
    refine WL_act gd0 (o_store (v := .bool false) Try.sizeOf4 rfl rfl rfl c31) ?_
    generalize hw30 : World.setCell w27 ((p28.add 2).add 2) (.bool false) = w30 at h ⊢
    try dsimp only at h
    refine WL_val gd0 ((o_nilCheck (by exact (congrArg Value.pointer q29))) _) rfl ?_
    refine WL_val gd0 ((o_fieldAddr 2 Try.underlying51 rfl Try.sizeOf40 rfl rfl rfl) _) rfl ?_
    refine WL_val gd0 ((o_fieldAddr 3 Try.underlying40 rfl Try.sizeOf4 rfl rfl rfl) _) rfl ?_
    obtain ⟨c33, h⟩ := h
    refine WL_act gd0 (o_store (v := .bool false) Try.sizeOf4 rfl rfl rfl c33) ?_
    generalize hw32 : World.setCell w30 ((p28.add 2).add 3) (.bool false) = w32 at h ⊢
    try dsimp only at h
    refine WL_nil ?_
    refine nrm ?_
    refine WC_seq ?_
    refine WC_region ?_
    refine WL_val gd0 ((o_move (v := .pointer f1) (by exact e0_26)) _) rfl ?_
    refine WL_call gd0 (o_call Try.call25 (argCons rfl argNil) _) rfl (h.mono ?_)
    rintro _ w34 ⟨rfl, h⟩
    refine WL_nil ?_
    refine nrm ?_
    refine WC_seq ?_
    refine WC_region ?_
    refine WL_val gd0 ((o_assign (v := .int .i64 5) rfl) _) rfl ?_
    refine WL_nil ?_
    refine nrm ?_
    refine WC_ret ?_
    refine rtE ?_
    exact gv1 rfl rfl h

/-- (*spacecraft farm.Farm).bypass -/
def F25 (f1 : Option Addr) (w2 : World) (k : Value → World → Prop) : Prop :=
  ∃ (p3 : Addr), f1 = some p3 ∧ ∃ (x5 : Int), w2.cell? ((p3.add 2).add 4) = some (.int .i64 x5) ∧ Put w2 ((p3.add 2).add 4) (.int .i64 (Int.tmod (IntKind.i64.wrap (x5 + 1)) 4)) (fun w7 => k (.tuple #[]) w7)
set_option maxRecDepth 100000 in
set_option maxHeartbeats 2000000 in
theorem w25 (f1 : Option Addr) (w2 : World) (k : Value → World → Prop) (h : F25 f1 w2 k) : Does Try.prog 25 #[.pointer f1] w2 k := by
  refine enter 13 Try.func25 rfl rfl rfl ?_
  intro ρ hρ
  have e0 := hρ 0 _ rfl
  unfold F25 at h
  refine WC_region ?_
  refine WL_val gd0 ((o_move (v := .pointer f1) (by exact e0)) _) rfl ?_
  refine WL_val gd0 ((o_move (v := .pointer f1) (by exact e0)) _) rfl ?_
  obtain ⟨p3, q4, h⟩ := h
  refine WL_val gd0 ((o_nilCheck (by exact (congrArg Value.pointer q4))) _) rfl ?_
  refine WL_val gd0 ((o_fieldAddr 2 Try.underlying51 rfl Try.sizeOf40 rfl rfl rfl) _) rfl ?_
  refine WL_val gd0 ((o_fieldAddr 4 Try.underlying40 rfl Try.sizeOf3 rfl rfl rfl) _) rfl ?_
  obtain ⟨x5, hc6, h⟩ := h
  refine WL_val gd0 (o_load Try.isAgg3 rfl hc6) rfl ?_
  refine WL_val gd0 ((o_add rfl rfl) _) rfl ?_
  refine WL_val gd0 ((fun w => o_rem rfl rfl w (by decide)) _) rfl ?_
  refine WL_val gd0 ((o_nilCheck (by exact (congrArg Value.pointer q4))) _) rfl ?_
  refine WL_val gd0 ((o_fieldAddr 2 Try.underlying51 rfl Try.sizeOf40 rfl rfl rfl) _) rfl ?_
  refine WL_val gd0 ((o_fieldAddr 4 Try.underlying40 rfl Try.sizeOf3 rfl rfl rfl) _) rfl ?_
  obtain ⟨c8, h⟩ := h
  refine WL_act gd0 (o_store (v := .int .i64 (Int.tmod (IntKind.i64.wrap (x5 + 1)) 4)) Try.sizeOf3 rfl rfl rfl c8) ?_
  generalize hw7 : World.setCell w2 ((p3.add 2).add 4) (.int .i64 (Int.tmod (IntKind.i64.wrap (x5 + 1)) 4)) = w7 at h ⊢
  try dsimp only at h
  refine WL_nil ?_
  refine ndE ?_
  exact gv0 rfl h

def F26_j1 (p5 : Addr) (w15 : World) (k : Value → World → Prop) : Prop :=
  Put w15 ((p5.add 2).add 1) (.bool true) (fun w16 => k (.int .i64 4) w16)
def F26_j2 (p5 : Addr) (verdict20 : Int) (w21 : World) (k : Value → World → Prop) : Prop :=
  Put w21 ((p5.add 2).add 3) (.bool true) (fun w22 => k (.int .i64 verdict20) w22)
/-- (*spacecraft farm.Farm).sequence -/
def F26 (f1 : Option Addr) (seq2 : Int) (room3 : Bool) (w4 : World) (k : Value → World → Prop) : Prop :=
  ∃ (p5 : Addr), f1 = some p5 ∧ ∃ (x7 : Bool), w4.cell? ((p5.add 2).add 1) = some (.bool x7) ∧ if x7 = true then
  k (.int .i64 4) w4
else
  ∃ (x10 : Int), w4.cell? ((p5.add 2).add 5) = some (.int .i64 x10) ∧ Does Try.prog 29 #[.int .i64 x10, .int .i64 seq2, .int .i64 8] w4 (fun v w12 => ∃ (ahead13 : Int), v = .int .i64 ahead13 ∧ if ahead13 = 0 then
    if room3 = true then
      Does Try.prog 32 #[.int .i64 seq2, .int .i64 1, .int .i64 8] w12 (fun v w26 => ∃ (x27 : Int), v = .int .i64 x27 ∧ Put w26 ((p5.add 2).add 5) (.int .i64 x27) (fun w28 => Put w28 ((p5.add 2).add 2) (.bool false) (fun w30 => Put w30 ((p5.add 2).add 3) (.bool false) (fun w32 => k (.int .i64 1) w32))))
    else
      Put w12 ((p5.add 2).add 2) (.bool true) (fun w34 => F26_j2 p5 6 w34 k)
  else
    ∃ (x36 : Int), w12.cell? (p5.add 1) = some (.int .i64 x36) ∧ if ahead13 < x36 then
      F26_j2 p5 3 w12 k
    else
      ∃ (x39 : Int), w12.cell? (p5.add 1) = some (.int .i64 x39) ∧ if (IntKind.i64.wrap (256 - x39)) ≤ ahead13 then
        k (.int .i64 2) w12
      else
        F26_j1 p5 w12 k)
set_option maxRecDepth 100000 in
set_option maxHeartbeats 2000000 in
theorem w26 (f1 : Option Addr) (seq2 : Int) (room3 : Bool) (w4 : World) (k : Value → World → Prop) (h : F26 f1 seq2 room3 w4 k) : Does Try.prog 26 #[.pointer f1, .int .i64 seq2, .bool room3] w4 k := by
  refine enter 72 Try.func26 rfl rfl rfl ?_
  intro ρ hρ
  have e0 := hρ 0 _ rfl
  have e1 := hρ 1 _ rfl
  have e2 := hρ 2 _ rfl
  unfold F26 at h
  refine WC_seq ?_
  refine WC_region ?_
  refine WL_val gd0 ((o_assign (v := .int .i64 0) rfl) _) rfl ?_
  refine WL_nil ?_
  refine nrm ?_
  refine WC_seq ?_
  refine WC_seq ?_
  refine WC_region ?_
  refine WL_val gd0 ((o_move (v := .pointer f1) (by exact e0)) _) rfl ?_
  obtain ⟨p5, q6, h⟩ := h
  refine WL_val gd0 ((o_nilCheck (by exact (congrArg Value.pointer q6))) _) rfl ?_
  refine WL_val gd0 ((o_fieldAddr 2 Try.underlying51 rfl Try.sizeOf40 rfl rfl rfl) _) rfl ?_
  refine WL_val gd0 ((o_fieldAddr 1 Try.underlying40 rfl Try.sizeOf4 rfl rfl rfl) _) rfl ?_
  obtain ⟨x7, hc8, h⟩ := h
  refine WL_val gd0 (o_load Try.isAgg4 rfl hc8) rfl ?_
  refine WL_nil ?_
  refine nrm ?_
  refine WC_cond (t := x7) rfl (fun hb9 => ?_) (fun hb9 => ?_)
  · rw [if_pos hb9] at h
    refine WC_seq ?_
    refine WC_region ?_
    refine WL_val gd0 ((o_assign (v := .int .i64 4) rfl) _) rfl ?_
    refine WL_nil ?_
    refine nrm ?_
    refine WC_ret ?_
    refine rtT ?_
    refine rtE ?_
    exact gv1 rfl rfl h
  · rw [if_neg (neT hb9)] at h
    refine WC_skip ?_
    refine nrm ?_
    refine WC_seq ?_
    refine WC_region ?_
    refine WL_val gd0 ((o_move (v := .pointer f1) (by exact e0)) _) rfl ?_
    refine WL_val gd0 ((o_nilCheck (by exact (congrArg Value.pointer q6))) _) rfl ?_
    refine WL_val gd0 ((o_fieldAddr 2 Try.underlying51 rfl Try.sizeOf40 rfl rfl rfl) _) rfl ?_
    refine WL_val gd0 ((o_fieldAddr 5 Try.underlying40 rfl Try.sizeOf3 rfl rfl rfl) _) rfl ?_
    obtain ⟨x10, hc11, h⟩ := h
    refine WL_val gd0 (o_load Try.isAgg3 rfl hc11) rfl ?_
    refine WL_val gd0 ((o_move (v := .int .i64 seq2) (by exact e1)) _) rfl ?_
    refine WL_call gd0 (o_call Try.call29 (argCons rfl (argCons rfl (argCons rfl argNil))) _) rfl (h.mono ?_)
    rintro _ w12 ⟨ahead13, rfl, h⟩
    refine WL_val gd0 ((o_assign (v := .int .i64 ahead13) rfl) _) rfl ?_
    refine WL_nil ?_
    refine nrm ?_
    refine WC_seq ?_
    refine WC_region ?_
    refine WL_val gd0 ((o_assign (v := .int .i64 3) rfl) _) rfl ?_
    refine WL_nil ?_
    refine nrm ?_
    refine WC_cut (fun ρ w' => ρ 0 = .pointer f1 ∧ F26_j1 p5 w' k) ?_ ?_
    · refine WC_block ?_
      refine WC_seq ?_
      refine WC_block ?_
      refine WC_cut (fun ρ w' => ∃ (verdict20 : Int), ρ 8 = .int .i64 verdict20 ∧ ρ 0 = .pointer f1 ∧ F26_j2 p5 verdict20 w' k) ?_ ?_
      · refine WC_block ?_
        refine WC_seq ?_
        refine WC_block ?_
        refine WC_seq ?_
        refine WC_block ?_
        refine WC_seq ?_
        refine WC_seq ?_
        refine WC_seq ?_
        refine WC_region ?_
        refine WL_val gd0 ((o_move (v := .int .i64 ahead13) rfl) _) rfl ?_
        refine WL_val gd0 ((o_eql rfl rfl) _) rfl ?_
        refine WL_val gd0 ((o_move (v := .bool (decide (ahead13 = 0))) rfl) _) rfl ?_
        refine bsplit (decide (ahead13 = 0)) (fun hb24 => ?_) (fun hb24 => ?_)
        · rw [if_pos (of_decide_eq_true hb24)] at h
          refine WL_val (gdY (b := (decide (ahead13 = 0))) 24 rfl rfl hb24) ((o_move (v := .bool room3) (by exact e2)) _) rfl ?_
          refine WL_val gd0 ((o_pickT (v := .bool room3) rfl hb24 rfl) _) rfl ?_
          refine WL_val gd0 ((o_assign (v := .bool room3) rfl) _) rfl ?_
          refine WL_nil ?_
          refine nrm ?_
          refine WC_cond (t := room3) rfl (fun hb25 => ?_) (fun hb25 => ?_)
          · rw [if_pos hb25] at h
            refine WC_exit ?_
            refine exT ?_
            refine exT ?_
            refine exB ?_
            refine nrm ?_
            refine WC_seq ?_
            refine WC_seq ?_
            refine WC_region ?_
            refine WL_val gd0 ((o_move (v := .pointer f1) (by exact e0)) _) rfl ?_
            refine WL_val gd0 ((o_move (v := .int .i64 seq2) (by exact e1)) _) rfl ?_
            refine WL_call gd0 (o_call Try.call32 (argCons rfl (argCons rfl (argCons rfl argNil))) _) rfl (h.mono ?_)
            rintro _ w26 ⟨x27, rfl, h⟩
            refine WL_val gd0 ((o_nilCheck (by exact (congrArg Value.pointer q6))) _) rfl ?_
            refine WL_val gd0 ((o_fieldAddr 2 Try.underlying51 rfl Try.sizeOf40 rfl rfl rfl) _) rfl ?_
            refine WL_val gd0 ((o_fieldAddr 5 Try.underlying40 rfl Try.sizeOf3 rfl rfl rfl) _) rfl ?_
            obtain ⟨c29, h⟩ := h
            refine WL_act gd0 (o_store (v := .int .i64 x27) Try.sizeOf3 rfl rfl rfl c29) ?_
            generalize hw28 : World.setCell w26 ((p5.add 2).add 5) (.int .i64 x27) = w28 at h ⊢
            try dsimp only at h
            refine WL_nil ?_
            refine nrm ?_
            refine WC_seq ?_
            refine WC_region ?_
            refine WL_val gd0 ((o_move (v := .pointer f1) (by exact e0)) _) rfl ?_
            refine WL_val gd0 ((o_move (v := .pointer f1) (by exact e0)) _) rfl ?_
            refine WL_val gd0 ((o_nilCheck (by exact (congrArg Value.pointer q6))) _) rfl ?_
            refine WL_val gd0 ((o_fieldAddr 2 Try.underlying51 rfl Try.sizeOf40 rfl rfl rfl) _) rfl ?_
            refine WL_val gd0 ((o_fieldAddr 2 Try.underlying40 rfl Try.sizeOf4 rfl rfl rfl) _) rfl ?_
            obtain ⟨c31, h⟩ := h
            refine WL_act gd0 (o_store (v := .bool false) Try.sizeOf4 rfl rfl rfl c31) ?_
            generalize hw30 : World.setCell w28 ((p5.add 2).add 2) (.bool false) = w30 at h ⊢
            try dsimp only at h
            refine WL_val gd0 ((o_nilCheck (by exact (congrArg Value.pointer q6))) _) rfl ?_
            refine WL_val gd0 ((o_fieldAddr 2 Try.underlying51 rfl Try.sizeOf40 rfl rfl rfl) _) rfl ?_
            refine WL_val gd0 ((o_fieldAddr 3 Try.underlying40 rfl Try.sizeOf4 rfl rfl rfl) _) rfl ?_
            obtain ⟨c33, h⟩ := h
            refine WL_act gd0 (o_store (v := .bool false) Try.sizeOf4 rfl rfl rfl c33) ?_
            generalize hw32 : World.setCell w30 ((p5.add 2).add 3) (.bool false) = w32 at h ⊢
            try dsimp only at h
            refine WL_nil ?_
            refine nrm ?_
            refine WC_seq ?_
            refine WC_region ?_
            refine WL_val gd0 ((o_assign (v := .int .i64 1) rfl) _) rfl ?_
            refine WL_nil ?_
            refine nrm ?_
            refine WC_ret ?_
            refine rtT ?_
            refine rtB ?_
            refine rtT ?_
            refine rtB ?_
            refine rtT ?_
            refine rtB ?_
            refine rtT ?_
            refine rtB ?_
            refine rtT ?_
            refine rtE ?_
            exact gv1 rfl rfl h
          · rw [if_neg (neT hb25)] at h
            refine WC_skip ?_
            refine nrm ?_
            refine WC_seq ?_
            refine WC_seq ?_
            refine WC_region ?_
            refine WL_val gd0 ((o_move (v := .int .i64 ahead13) rfl) _) rfl ?_
            refine WL_val gd0 ((o_eql rfl rfl) _) rfl ?_
            refine WL_val gd0 ((o_assign (v := .bool (decide (ahead13 = 0))) rfl) _) rfl ?_
            refine WL_nil ?_
            refine nrm ?_
            refine WC_cond (t := (decide (ahead13 = 0))) rfl (fun _ => ?_) (fun hx => by rw [(hb24 : (decide (ahead13 = 0)) = true)] at hx; cases hx)
            refine WC_exit ?_
            refine exT ?_
            refine exT ?_
            refine exO rfl ?_
            refine exT ?_
            refine exB ?_
            refine nrm ?_
            refine WC_seq ?_
            refine WC_region ?_
            refine WL_val gd0 ((o_move (v := .pointer f1) (by exact e0)) _) rfl ?_
            refine WL_val gd0 ((o_nilCheck (by exact (congrArg Value.pointer q6))) _) rfl ?_
            refine WL_val gd0 ((o_fieldAddr 2 Try.underlying51 rfl Try.sizeOf40 rfl rfl rfl) _) rfl ?_
            refine WL_val gd0 ((o_fieldAddr 2 Try.underlying40 rfl Try.sizeOf4 rfl rfl rfl) _) rfl ?_
            obtain ⟨c35, h⟩ := h
            refine WL_act gd0 (o_store (v := .bool true) Try.sizeOf4 rfl rfl rfl c35) ?_
            generalize hw34 : World.setCell w12 ((p5.add 2).add 2) (.bool true) = w34 at h ⊢
            try dsimp only at h
            refine WL_nil ?_
            refine nrm ?_
            refine WC_region ?_
            refine WL_val gd0 ((o_assign (v := .int .i64 6) rfl) _) rfl ?_
            refine WL_nil ?_
            refine nrmB ?_
            refine nrm ?_
            exact ⟨_, rfl, e0, h⟩
        · rw [if_neg (of_decide_eq_false hb24)] at h
          refine WL_skip (gdN (b := (decide (ahead13 = 0))) 24 rfl rfl hb24) rfl ?_
          refine WL_val gd0 ((o_pickF (v := .bool false) rfl hb24 rfl) _) rfl ?_
          refine WL_val gd0 ((o_assign (v := .bool false) rfl) _) rfl ?_
          refine WL_nil ?_
          refine nrm ?_
          refine WC_cond (t := false) rfl (fun hx => by rw [(rfl : false = false)] at hx; cases hx) (fun _ => ?_)
          refine WC_skip ?_
          refine nrm ?_
          refine WC_seq ?_
          refine WC_seq ?_
          refine WC_region ?_
          refine WL_val gd0 ((o_move (v := .int .i64 ahead13) rfl) _) rfl ?_
          refine WL_val gd0 ((o_eql rfl rfl) _) rfl ?_
          refine WL_val gd0 ((o_assign (v := .bool (decide (ahead13 = 0))) rfl) _) rfl ?_
          refine WL_nil ?_
          refine nrm ?_
          refine WC_cond (t := (decide (ahead13 = 0))) rfl (fun hx => by rw [(hb24 : (decide (ahead13 = 0)) = false)] at hx; cases hx) (fun _ => ?_)
          refine WC_skip ?_
          refine nrm ?_
          refine WC_seq ?_
          refine WC_seq ?_
          refine WC_region ?_
          refine WL_val gd0 ((o_move (v := .int .i64 ahead13) rfl) _) rfl ?_
          refine WL_val gd0 ((o_move (v := .pointer f1) (by exact e0)) _) rfl ?_
          refine WL_val gd0 ((o_nilCheck (by exact (congrArg Value.pointer q6))) _) rfl ?_
          refine WL_val gd0 ((o_fieldAddr 1 Try.underlying51 rfl Try.sizeOf3 rfl rfl rfl) _) rfl ?_
          obtain ⟨x36, hc37, h⟩ := h
          refine WL_val gd0 (o_load Try.isAgg3 rfl hc37) rfl ?_
          refine WL_val gd0 ((o_lss rfl rfl) _) rfl ?_
          refine WL_val gd0 ((o_assign (v := .bool (decide (ahead13 < x36))) rfl) _) rfl ?_
          refine WL_nil ?_
          refine nrm ?_
          refine WC_cond (t := (decide (ahead13 < x36))) rfl (fun hb38 => ?_) (fun hb38 => ?_)
          · rw [if_pos (of_decide_eq_true hb38)] at h
            refine WC_exit ?_
            refine exT ?_
            refine exT ?_
            refine exO rfl ?_
            refine exT ?_
            refine exO rfl ?_
            refine exT ?_
            refine exB ?_
            refine nrm ?_
            exact ⟨_, rfl, e0, h⟩
          · rw [if_neg (of_decide_eq_false hb38)] at h
            refine WC_skip ?_
            refine nrm ?_
            refine WC_seq ?_
            refine WC_region ?_
            refine WL_val gd0 ((o_move (v := .int .i64 ahead13) rfl) _) rfl ?_
            refine WL_val gd0 ((o_move (v := .pointer f1) (by exact e0)) _) rfl ?_
            refine WL_val gd0 ((o_nilCheck (by exact (congrArg Value.pointer q6))) _) rfl ?_
            refine WL_val gd0 ((o_fieldAddr 1 Try.underlying51 rfl Try.sizeOf3 rfl rfl rfl) _) rfl ?_
            obtain ⟨x39, hc40, h⟩ := h
            refine WL_val gd0 (o_load Try.isAgg3 rfl hc40) rfl ?_
            refine WL_val gd0 ((o_sub rfl rfl) _) rfl ?_
            refine WL_val gd0 ((o_geq rfl rfl) _) rfl ?_
            refine WL_val gd0 ((o_assign (v := .bool (decide ((IntKind.i64.wrap (256 - x39)) ≤ ahead13))) rfl) _) rfl ?_
            refine WL_nil ?_
            refine nrm ?_
            refine WC_cond (t := (decide ((IntKind.i64.wrap (256 - x39)) ≤ ahead13))) rfl (fun hb41 => ?_) (fun hb41 => ?_)
            · rw [if_pos (of_decide_eq_true hb41)] at h
              refine WC_exit ?_
              refine exT ?_
              refine exO rfl ?_
              refine exT ?_
              refine exO rfl ?_
              refine exT ?_
              refine exO rfl ?_
              refine exT ?_
              refine exB ?_
              refine nrm ?_
              refine WC_seq ?_
              refine WC_seq ?_
              refine WC_region ?_
              refine WL_val gd0 ((o_assign (v := .int .i64 2) rfl) _) rfl ?_
              refine WL_nil ?_
              refine nrm ?_
              refine WC_ret ?_
              refine rtT ?_
              refine rtB ?_
              refine rtT ?_
              refine rtE ?_
              exact gv1 rfl rfl h
            · rw [if_neg (of_decide_eq_false hb41)] at h
              refine WC_skip ?_
              refine nrm ?_
              refine WC_exit ?_
              refine exO rfl ?_
              refine exT ?_
              refine exO rfl ?_
              refine exT ?_
              refine exO rfl ?_
              refine exT ?_
              refine exO rfl ?_
              refine exT ?_
              refine exB ?_
              refine nrm ?_
              exact ⟨e0, h⟩
      · rintro ρ w21 ⟨verdict20, e8_19, e0_18, h⟩
        unfold F26_j2 at h
        refine WC_seq ?_
        refine WC_seq ?_
        refine WC_region ?_
        refine WL_val gd0 ((o_move (v := .pointer f1) (by exact e0_18)) _) rfl ?_
        refine WL_val gd0 ((o_nilCheck (by exact (congrArg Value.pointer q6))) _) rfl ?_
        refine WL_val gd0 ((o_fieldAddr 2 Try.underlying51 rfl Try.sizeOf40 rfl rfl rfl) _) rfl ?_
        refine WL_val gd0 ((o_fieldAddr 3 Try.underlying40 rfl Try.sizeOf4 rfl rfl rfl) _) rfl ?_
        obtain ⟨c23, h⟩ := h
        refine WL_act gd0 (o_store (v := .bool true) Try.sizeOf4 rfl rfl rfl c23) ?_
        generalize hw22 : World.setCell w21 ((p5.add 2).add 3) (.bool true) = w22 at h ⊢
        try dsimp only at h
        refine WL_nil ?_
        refine nrm ?_
        refine WC_seq ?_
        refine WC_region ?_
        refine WL_val gd0 ((o_move (v := .int .i64 verdict20) (by exact e8_19)) _) rfl ?_
        refine WL_val gd0 ((o_assign (v := .int .i64 verdict20) rfl) _) rfl ?_
        refine WL_nil ?_
        refine nrm ?_
        refine WC_ret ?_
        refine rtT ?_
        refine rtB ?_
        refine rtT ?_
        refine rtB ?_
        refine rtT ?_
        refine rtE ?_
        exact gv1 rfl rfl h
    · rintro ρ w15 ⟨e0_14, h⟩
      unfold F26_j1 at h
      refine WC_seq ?_
      refine WC_region ?_
      refine WL_val gd0 ((o_move (v := .pointer f1) (by exact e0_14)) _) rfl ?_
      refine WL_val gd0 ((o_nilCheck (by exact (congrArg Value.pointer q6))) _) rfl ?_
      refine WL_val gd0 ((o_fieldAddr 2 Try.underlying51 rfl Try.sizeOf40 rfl rfl rfl) _) rfl ?_
      refine WL_val gd0 ((o_fieldAddr 1 Try.underlying40 rfl Try.sizeOf4 rfl rfl rfl) _) rfl ?_
      obtain ⟨c17, h⟩ := h
      refine WL_act gd0 (o_store (v := .bool true) Try.sizeOf4 rfl rfl rfl c17) ?_
      generalize hw16 : World.setCell w15 ((p5.add 2).add 1) (.bool true) = w16 at h ⊢
      try dsimp only at h
      refine WL_nil ?_
      refine nrm ?_
      refine WC_seq ?_
      refine WC_region ?_
      refine WL_val gd0 ((o_assign (v := .int .i64 4) rfl) _) rfl ?_
      refine WL_nil ?_
      refine nrm ?_
      refine WC_ret ?_
      refine rtE ?_
      exact gv1 rfl rfl h

/-- bytes.Clone -/
def F27 (b_a1 : Option Addr) (b_n2 : Nat) (b_c3 : Nat) (w4 : World) (k : Value → World → Prop) : Prop :=
  if (b_a1).isNone = true then
  k (.slice none 0 0) w4
else
  New w4 5 [] (fun p6 w7 => ∃ (b_a8 : Option Addr) (b_n9 b_c10 : Nat) (w11 : World), (Builtin.append_ #[28, 28] 28 #[.slice (some p6) 0 0, .slice b_a1 b_n2 b_c3]).run Try.prog w7 = .ok (.slice b_a8 b_n9 b_c10) w11 ∧ k (.slice b_a8 b_n9 b_c10) w11)
set_option maxRecDepth 100000 in
set_option maxHeartbeats 2000000 in
theorem w27 (b_a1 : Option Addr) (b_n2 : Nat) (b_c3 : Nat) (w4 : World) (k : Value → World → Prop) (h : F27 b_a1 b_n2 b_c3 w4 k) : Does Try.prog 27 #[.slice b_a1 b_n2 b_c3] w4 k := by
  refine enter 8 Try.func27 rfl rfl rfl ?_
  intro ρ hρ
  have e0 := hρ 0 _ rfl
  unfold F27 at h
  refine WC_seq ?_
  refine WC_region ?_
  refine WL_val gd0 ((o_assign (v := .slice none 0 0) rfl) _) rfl ?_
  refine WL_nil ?_
  refine nrm ?_
  refine WC_seq ?_
  refine WC_seq ?_
  refine WC_region ?_
  refine WL_val gd0 ((o_move (v := .slice b_a1 b_n2 b_c3) (by exact e0)) _) rfl ?_
  refine WL_val gd0 ((o_eqlSliceNil Try.underlying28 rfl rfl) _) rfl ?_
  refine WL_nil ?_
  refine nrm ?_
  refine WC_cond (t := ((b_a1).isNone)) rfl (fun hb5 => ?_) (fun hb5 => ?_)
  · rw [if_pos hb5] at h
    refine WC_seq ?_
    refine WC_region ?_
    refine WL_val gd0 ((o_assign (v := .slice none 0 0) rfl) _) rfl ?_
    refine WL_nil ?_
    refine nrm ?_
    refine WC_ret ?_
    refine rtT ?_
    refine rtE ?_
    exact gv1 rfl rfl h
  · rw [if_neg (neT hb5)] at h
    refine WC_skip ?_
    refine nrm ?_
    refine WC_seq ?_
    refine WC_region ?_
    have h := New.out h
    refine WL_val gd0 (o_buildSlice (e := 5) (ps := []) (cs := []) partNil (fun w => by kernel_rfl)) rfl ?_
    generalize hp6 : fresh w4 = p6 at h ⊢
    generalize hw7 : push w4 5 [] = w7 at h ⊢
    try dsimp only at h
    refine WL_val gd0 ((o_move (v := .slice b_a1 b_n2 b_c3) (by exact e0)) _) rfl ?_
    obtain ⟨b_a8, b_n9, b_c10, w11, r12, h⟩ := h
    refine WL_val gd0 (o_append rfl rfl r12) rfl ?_
    refine WL_val gd0 ((o_assign (v := .slice b_a8 b_n9 b_c10) rfl) _) rfl ?_
    refine WL_nil ?_
    refine nrm ?_
    refine WC_ret ?_
    refine rtE ?_
    exact gv1 rfl rfl h

/-- spacecraft clcw.Valid -/
def F28 (c1 : Int) (c2 : Bool) (c3 : Bool) (c4 : Bool) (c5 : Int) (c6 : Int) (w7 : World) (k : Value → World → Prop) : Prop :=
  New w7 40 [.int .i64 c1, .bool c2, .bool c3, .bool c4, .int .i64 c5, .int .i64 c6] (fun p8 w9 => ∃ (x10 : Int), w9.cell? p8 = some (.int .i64 x10) ∧ if 0 ≤ x10 then
  ∃ (x13 : Int), w9.cell? p8 = some (.int .i64 x13) ∧ if x13 ≤ 7 then
    ∃ (x16 : Int), w9.cell? (p8.add 4) = some (.int .i64 x16) ∧ if 0 ≤ x16 then
      ∃ (x19 : Int), w9.cell? (p8.add 4) = some (.int .i64 x19) ∧ if x19 ≤ 3 then
        ∃ (x22 : Int), w9.cell? (p8.add 5) = some (.int .i64 x22) ∧ if 0 ≤ x22 then
          ∃ (x25 : Int), w9.cell? (p8.add 5) = some (.int .i64 x25) ∧ k (.bool (decide (x25 ≤ 255))) w9
        else
          k (.bool false) w9
      else
        k (.bool false) w9
    else
      k (.bool false) w9
  else
    k (.bool false) w9
else
  k (.bool false) w9)
set_option maxRecDepth 100000 in
set_option maxHeartbeats 2000000 in
theorem w28 (c1 : Int) (c2 : Bool) (c3 : Bool) (c4 : Bool) (c5 : Int) (c6 : Int) (w7 : World) (k : Value → World → Prop) (h : F28 c1 c2 c3 c4 c5 c6 w7 k) : Does Try.prog 28 #[.agg #[.int .i64 c1, .bool c2, .bool c3, .bool c4, .int .i64 c5, .int .i64 c6]] w7 k := by
  refine enter 31 Try.func28 rfl rfl rfl ?_
  intro ρ hρ
  have e0 := hρ 0 _ rfl
  unfold F28 at h
  refine WC_seq ?_
  refine WC_region ?_
  have h := New.out h
  refine WL_val gd0 (o_box (v := .agg #[.int .i64 c1, .bool c2, .bool c3, .bool c4, .int .i64 c5, .int .i64 c6]) (cs := [.int .i64 c1, .bool c2, .bool c3, .bool c4, .int .i64 c5, .int .i64 c6]) (by exact e0) rfl) rfl ?_
  generalize hp8 : fresh w7 = p8 at h ⊢
  generalize hw9 : push w7 40 [.int .i64 c1, .bool c2, .bool c3, .bool c4, .int .i64 c5, .int .i64 c6] = w9 at h ⊢
  try dsimp only at h
  refine WL_val gd0 ((o_assign (v := .bool false) rfl) _) rfl ?_
  refine WL_nil ?_
  refine nrm ?_
  refine WC_seq ?_
  refine WC_region ?_
  refine WL_val gd0 ((o_fieldAddr0 Try.underlying40 rfl Try.sizeOf3 rfl rfl rfl) _) rfl ?_
  obtain ⟨x10, hc11, h⟩ := h
  refine WL_val gd0 (o_load Try.isAgg3 rfl hc11) rfl ?_
  refine WL_val gd0 ((o_geq rfl rfl) _) rfl ?_
  refine WL_val gd0 ((o_move (v := .bool (decide (0 ≤ x10))) rfl) _) rfl ?_
  refine bsplit (decide (0 ≤ x10)) (fun hb12 => ?_) (fun hb12 => ?_)
  · rw [if_pos (of_decide_eq_true hb12)] at h
    refine WL_val (gdY (b := (decide (0 ≤ x10))) 6 rfl rfl hb12) ((o_fieldAddr0 Try.underlying40 rfl Try.sizeOf3 rfl rfl rfl) _) rfl ?_
    obtain ⟨x13, hc14, h⟩ := h
    refine WL_val (gdY (b := (decide (0 ≤ x10))) 6 rfl rfl hb12) (o_load Try.isAgg3 rfl hc14) rfl ?_
    refine WL_val (gdY (b := (decide (0 ≤ x10))) 6 rfl rfl hb12) ((o_leq rfl rfl) _) rfl ?_
    refine WL_val gd0 ((o_pickT (v := .bool (decide (x13 ≤ 7))) rfl hb12 rfl) _) rfl ?_
    refine WL_val gd0 ((o_move (v := .bool (decide (x13 ≤ 7))) rfl) _) rfl ?_
    refine bsplit (decide (x13 ≤ 7)) (fun hb15 => ?_) (fun hb15 => ?_)
    · rw [if_pos (of_decide_eq_true hb15)] at h
      refine WL_val (gdY (b := (decide (x13 ≤ 7))) 11 rfl rfl hb15) ((o_fieldAddr 4 Try.underlying40 rfl Try.sizeOf3 rfl rfl rfl) _) rfl ?_
      obtain ⟨x16, hc17, h⟩ := h
      refine WL_val (gdY (b := (decide (x13 ≤ 7))) 11 rfl rfl hb15) (o_load Try.isAgg3 rfl hc17) rfl ?_
      refine WL_val (gdY (b := (decide (x13 ≤ 7))) 11 rfl rfl hb15) ((o_geq rfl rfl) _) rfl ?_
      refine WL_val gd0 ((o_pickT (v := .bool (decide (0 ≤ x16))) rfl hb15 rfl) _) rfl ?_
      refine WL_val gd0 ((o_move (v := .bool (decide (0 ≤ x16))) rfl) _) rfl ?_
      refine bsplit (decide (0 ≤ x16)) (fun hb18 => ?_) (fun hb18 => ?_)
      · rw [if_pos (of_decide_eq_true hb18)] at h
        refine WL_val (gdY (b := (decide (0 ≤ x16))) 16 rfl rfl hb18) ((o_fieldAddr 4 Try.underlying40 rfl Try.sizeOf3 rfl rfl rfl) _) rfl ?_
        obtain ⟨x19, hc20, h⟩ := h
        refine WL_val (gdY (b := (decide (0 ≤ x16))) 16 rfl rfl hb18) (o_load Try.isAgg3 rfl hc20) rfl ?_
        refine WL_val (gdY (b := (decide (0 ≤ x16))) 16 rfl rfl hb18) ((o_leq rfl rfl) _) rfl ?_
        refine WL_val gd0 ((o_pickT (v := .bool (decide (x19 ≤ 3))) rfl hb18 rfl) _) rfl ?_
        refine WL_val gd0 ((o_move (v := .bool (decide (x19 ≤ 3))) rfl) _) rfl ?_
        refine bsplit (decide (x19 ≤ 3)) (fun hb21 => ?_) (fun hb21 => ?_)
        · rw [if_pos (of_decide_eq_true hb21)] at h
          refine WL_val (gdY (b := (decide (x19 ≤ 3))) 21 rfl rfl hb21) ((o_fieldAddr 5 Try.underlying40 rfl Try.sizeOf3 rfl rfl rfl) _) rfl ?_
          obtain ⟨x22, hc23, h⟩ := h
          refine WL_val (gdY (b := (decide (x19 ≤ 3))) 21 rfl rfl hb21) (o_load Try.isAgg3 rfl hc23) rfl ?_
          refine WL_val (gdY (b := (decide (x19 ≤ 3))) 21 rfl rfl hb21) ((o_geq rfl rfl) _) rfl ?_
          refine WL_val gd0 ((o_pickT (v := .bool (decide (0 ≤ x22))) rfl hb21 rfl) _) rfl ?_
          refine WL_val gd0 ((o_move (v := .bool (decide (0 ≤ x22))) rfl) _) rfl ?_
          refine bsplit (decide (0 ≤ x22)) (fun hb24 => ?_) (fun hb24 => ?_)
          · rw [if_pos (of_decide_eq_true hb24)] at h
            refine WL_val (gdY (b := (decide (0 ≤ x22))) 26 rfl rfl hb24) ((o_fieldAddr 5 Try.underlying40 rfl Try.sizeOf3 rfl rfl rfl) _) rfl ?_
            obtain ⟨x25, hc26, h⟩ := h
            refine WL_val (gdY (b := (decide (0 ≤ x22))) 26 rfl rfl hb24) (o_load Try.isAgg3 rfl hc26) rfl ?_
            refine WL_val (gdY (b := (decide (0 ≤ x22))) 26 rfl rfl hb24) ((o_leq rfl rfl) _) rfl ?_
            refine WL_val gd0 ((o_pickT (v := .bool (decide (x25 ≤ 255))) rfl hb24 rfl) _) rfl ?_
            refine WL_val gd0 ((o_assign (v := .bool (decide (x25 ≤ 255))) rfl) _) rfl ?_
            refine WL_nil ?_
            refine nrm ?_
            refine WC_ret ?_
            refine rtE ?_
            exact gv1 rfl rfl h
          · rw [if_neg (of_decide_eq_false hb24)] at h
            refine WL_skip (gdN (b := (decide (0 ≤ x22))) 26 rfl rfl hb24) rfl ?_
            refine WL_skip (gdN (b := (decide (0 ≤ x22))) 26 rfl rfl hb24) rfl ?_
            refine WL_skip (gdN (b := (decide (0 ≤ x22))) 26 rfl rfl hb24) rfl ?_
            refine WL_val gd0 ((o_pickF (v := .bool false) rfl hb24 rfl) _) rfl ?_
            refine WL_val gd0 ((o_assign (v := .bool false) rfl) _) rfl ?_
            refine WL_nil ?_
            refine nrm ?_
            refine WC_ret ?_
            refine rtE ?_
            exact gv1 rfl rfl h
        · rw [if_neg (of_decide_eq_false hb21)] at h
          refine WL_skip (gdN (b := (decide (x19 ≤ 3))) 21 rfl rfl hb21) rfl ?_
          refine WL_skip (gdN (b := (decide (x19 ≤ 3))) 21 rfl rfl hb21) rfl ?_
          refine WL_skip (gdN (b := (decide (x19 ≤ 3))) 21 rfl rfl hb21) rfl ?_
          refine WL_val gd0 ((o_pickF (v := .bool false) rfl hb21 rfl) _) rfl ?_
          refine WL_val gd0 ((o_move (v := .bool false) rfl) _) rfl ?_
          refine WL_skip (gdN (b := false) 26 rfl rfl rfl) rfl ?_
          refine WL_skip (gdN (b := false) 26 rfl rfl rfl) rfl ?_
          refine WL_skip (gdN (b := false) 26 rfl rfl rfl) rfl ?_
          refine WL_val gd0 ((o_pickF (v := .bool false) rfl rfl rfl) _) rfl ?_
          refine WL_val gd0 ((o_assign (v := .bool false) rfl) _) rfl ?_
          refine WL_nil ?_
          refine nrm ?_
          refine WC_ret ?_
          refine rtE ?_
          exact gv1 rfl rfl h
      · rw [if_neg (of_decide_eq_false hb18)] at h
        refine WL_skip (gdN (b := (decide (0 ≤ x16))) 16 rfl rfl hb18) rfl ?_
        refine WL_skip (gdN (b := (decide (0 ≤ x16))) 16 rfl rfl hb18) rfl ?_
        refine WL_skip (gdN (b := (decide (0 ≤ x16))) 16 rfl rfl hb18) rfl ?_
        refine WL_val gd0 ((o_pickF (v := .bool false) rfl hb18 rfl) _) rfl ?_
        refine WL_val gd0 ((o_move (v := .bool false) rfl) _) rfl ?_
        refine WL_skip (gdN (b := false) 21 rfl rfl rfl) rfl ?_
        refine WL_skip (gdN (b := false) 21 rfl rfl rfl) rfl ?_
        refine WL_skip (gdN (b := false) 21 rfl rfl rfl) rfl ?_
        refine WL_val gd0 ((o_pickF (v := .bool false) rfl rfl rfl) _) rfl ?_
        refine WL_val gd0 ((o_move (v := .bool false) rfl) _) rfl ?_
        refine WL_skip (gdN (b := false) 26 rfl rfl rfl) rfl ?_
        refine WL_skip (gdN (b := false) 26 rfl rfl rfl) rfl ?_
        refine WL_skip (gdN (b := false) 26 rfl rfl rfl) rfl ?_
        refine WL_val gd0 ((o_pickF (v := .bool false) rfl rfl rfl) _) rfl ?_
        refine WL_val gd0 ((o_assign (v := .bool false) rfl) _) rfl ?_
        refine WL_nil ?_
        refine nrm ?_
        refine WC_ret ?_
        refine rtE ?_
        exact gv1 rfl rfl h
    · rw [if_neg (of_decide_eq_false hb15)] at h
      refine WL_skip (gdN (b := (decide (x13 ≤ 7))) 11 rfl rfl hb15) rfl ?_
      refine WL_skip (gdN (b := (decide (x13 ≤ 7))) 11 rfl rfl hb15) rfl ?_
      refine WL_skip (gdN (b := (decide (x13 ≤ 7))) 11 rfl rfl hb15) rfl ?_
      refine WL_val gd0 ((o_pickF (v := .bool false) rfl hb15 rfl) _) rfl ?_
      refine WL_val gd0 ((o_move (v := .bool false) rfl) _) rfl ?_
      refine WL_skip (gdN (b := false) 16 rfl rfl rfl) rfl ?_
      refine WL_skip (gdN (b := false) 16 rfl rfl rfl) rfl ?_
      refine WL_skip (gdN (b := false) 16 rfl rfl rfl) rfl ?_
      refine WL_val gd0 ((o_pickF (v := .bool false) rfl rfl rfl) _) rfl ?_
      refine WL_val gd0 ((o_move (v := .bool false) rfl) _) rfl ?_
      refine WL_skip (gdN (b := false) 21 rfl rfl rfl) rfl ?_
      refine WL_skip (gdN (b := false) 21 rfl rfl rfl) rfl ?_
      refine WL_skip (gdN (b := false) 21 rfl rfl rfl) rfl ?_
      refine WL_val gd0 ((o_pickF (v := .bool false) rfl rfl rfl) _) rfl ?_
      refine WL_val gd0 ((o_move (v := .bool false) rfl) _) rfl ?_
      refine WL_skip (gdN (b := false) 26 rfl rfl rfl) rfl ?_
      refine WL_skip (gdN (b := false) 26 rfl rfl rfl) rfl ?_
      refine WL_skip (gdN (b := false) 26 rfl rfl rfl) rfl ?_
      refine WL_val gd0 ((o_pickF (v := .bool false) rfl rfl rfl) _) rfl ?_
      refine WL_val gd0 ((o_assign (v := .bool false) rfl) _) rfl ?_
      refine WL_nil ?_
      refine nrm ?_
      refine WC_ret ?_
      refine rtE ?_
      exact gv1 rfl rfl h
  · rw [if_neg (of_decide_eq_false hb12)] at h
    refine WL_skip (gdN (b := (decide (0 ≤ x10))) 6 rfl rfl hb12) rfl ?_
    refine WL_skip (gdN (b := (decide (0 ≤ x10))) 6 rfl rfl hb12) rfl ?_
    refine WL_skip (gdN (b := (decide (0 ≤ x10))) 6 rfl rfl hb12) rfl ?_
    refine WL_val gd0 ((o_pickF (v := .bool false) rfl hb12 rfl) _) rfl ?_
    refine WL_val gd0 ((o_move (v := .bool false) rfl) _) rfl ?_
    refine WL_skip (gdN (b := false) 11 rfl rfl rfl) rfl ?_
    refine WL_skip (gdN (b := false) 11 rfl rfl rfl) rfl ?_
    refine WL_skip (gdN (b := false) 11 rfl rfl rfl) rfl ?_
    refine WL_val gd0 ((o_pickF (v := .bool false) rfl rfl rfl) _) rfl ?_
    refine WL_val gd0 ((o_move (v := .bool false) rfl) _) rfl ?_
    refine WL_skip (gdN (b := false) 16 rfl rfl rfl) rfl ?_
    refine WL_skip (gdN (b := false) 16 rfl rfl rfl) rfl ?_
    refine WL_skip (gdN (b := false) 16 rfl rfl rfl) rfl ?_
    refine WL_val gd0 ((o_pickF (v := .bool false) rfl rfl rfl) _) rfl ?_
    refine WL_val gd0 ((o_move (v := .bool false) rfl) _) rfl ?_
    refine WL_skip (gdN (b := false) 21 rfl rfl rfl) rfl ?_
    refine WL_skip (gdN (b := false) 21 rfl rfl rfl) rfl ?_
    refine WL_skip (gdN (b := false) 21 rfl rfl rfl) rfl ?_
    refine WL_val gd0 ((o_pickF (v := .bool false) rfl rfl rfl) _) rfl ?_
    refine WL_val gd0 ((o_move (v := .bool false) rfl) _) rfl ?_
    refine WL_skip (gdN (b := false) 26 rfl rfl rfl) rfl ?_
    refine WL_skip (gdN (b := false) 26 rfl rfl rfl) rfl ?_
    refine WL_skip (gdN (b := false) 26 rfl rfl rfl) rfl ?_
    refine WL_val gd0 ((o_pickF (v := .bool false) rfl rfl rfl) _) rfl ?_
    refine WL_val gd0 ((o_assign (v := .bool false) rfl) _) rfl ?_
    refine WL_nil ?_
    refine nrm ?_
    refine WC_ret ?_
    refine rtE ?_
    exact gv1 rfl rfl h

/-- spacecraft serial.Distance -/
def F29 (a1 : Int) (b2 : Int) (bits3 : Int) (w4 : World) (k : Value → World → Prop) : Prop :=
  Does Try.prog 33 #[.int .i64 a1, .int .i64 bits3] w4 (fun v w5 => ∃ (x6 : Bool), v = .bool x6 ∧ if (!x6) = true then
  k (.int .i64 0) w5
else
  Does Try.prog 33 #[.int .i64 b2, .int .i64 bits3] w5 (fun v w8 => ∃ (x9 : Bool), v = .bool x9 ∧ if (!x9) = true then
    k (.int .i64 0) w8
  else
    Does Try.prog 32 #[.int .i64 b2, .int .i64 (IntKind.i64.wrap (0 - a1)), .int .i64 bits3] w8 (fun v w11 => ∃ (t12 : Int), v = .int .i64 t12 ∧ k (.int .i64 t12) w11)))
set_option maxRecDepth 100000 in
set_option maxHeartbeats 2000000 in
theorem w29 (a1 : Int) (b2 : Int) (bits3 : Int) (w4 : World) (k : Value → World → Prop) (h : F29 a1 b2 bits3 w4 k) : Does Try.prog 29 #[.int .i64 a1, .int .i64 b2, .int .i64 bits3] w4 k := by
  refine enter 22 Try.func29 rfl rfl rfl ?_
  intro ρ hρ
  have e0 := hρ 0 _ rfl
  have e1 := hρ 1 _ rfl
  have e2 := hρ 2 _ rfl
  unfold F29 at h
  refine WC_seq ?_
  refine WC_region ?_
  refine WL_val gd0 ((o_assign (v := .int .i64 0) rfl) _) rfl ?_
  refine WL_nil ?_
  refine nrm ?_
  refine WC_seq ?_
  refine WC_seq ?_
  refine WC_region ?_
  refine WL_val gd0 ((o_move (v := .int .i64 a1) (by exact e0)) _) rfl ?_
  refine WL_val gd0 ((o_move (v := .int .i64 bits3) (by exact e2)) _) rfl ?_
  refine WL_call gd0 (o_call Try.call33 (argCons rfl (argCons rfl argNil)) _) rfl (h.mono ?_)
  rintro _ w5 ⟨x6, rfl, h⟩
  refine WL_val gd0 ((o_not rfl) _) rfl ?_
  refine WL_val gd0 ((o_move (v := .bool (!x6)) rfl) _) rfl ?_
  refine bsplit (!x6) (fun hb7 => ?_) (fun hb7 => ?_)
  · rw [if_pos hb7] at h
    refine WL_skip (gdN (b := (!x6)) 11 rfl rfl hb7) rfl ?_
    refine WL_skip (gdN (b := (!x6)) 11 rfl rfl hb7) rfl ?_
    refine WL_skip (gdN (b := (!x6)) 11 rfl rfl hb7) rfl ?_
    refine WL_skip (gdN (b := (!x6)) 11 rfl rfl hb7) rfl ?_
    refine WL_val gd0 ((o_pickT (v := .bool true) rfl hb7 rfl) _) rfl ?_
    refine WL_nil ?_
    refine nrm ?_
    refine WC_cond (t := true) rfl (fun _ => ?_) (fun hx => by rw [(rfl : true = true)] at hx; cases hx)
    refine WC_seq ?_
    refine WC_region ?_
    refine WL_val gd0 ((o_assign (v := .int .i64 0) rfl) _) rfl ?_
    refine WL_nil ?_
    refine nrm ?_
    refine WC_ret ?_
    refine rtT ?_
    refine rtE ?_
    exact gv1 rfl rfl h
  · rw [if_neg (neT hb7)] at h
    refine WL_val (gdY (b := (!x6)) 11 rfl rfl hb7) ((o_move (v := .int .i64 b2) (by exact e1)) _) rfl ?_
    refine WL_val (gdY (b := (!x6)) 11 rfl rfl hb7) ((o_move (v := .int .i64 bits3) (by exact e2)) _) rfl ?_
    refine WL_call (gdY (b := (!x6)) 11 rfl rfl hb7) (o_call Try.call33 (argCons rfl (argCons rfl argNil)) _) rfl (h.mono ?_)
    rintro _ w8 ⟨x9, rfl, h⟩
    refine WL_val (gdY (b := (!x6)) 11 rfl rfl hb7) ((o_not rfl) _) rfl ?_
    refine WL_val gd0 ((o_pickF (v := .bool (!x9)) rfl hb7 rfl) _) rfl ?_
    refine WL_nil ?_
    refine nrm ?_
    refine WC_cond (t := (!x9)) rfl (fun hb10 => ?_) (fun hb10 => ?_)
    · rw [if_pos hb10] at h
      refine WC_seq ?_
      refine WC_region ?_
      refine WL_val gd0 ((o_assign (v := .int .i64 0) rfl) _) rfl ?_
      refine WL_nil ?_
      refine nrm ?_
      refine WC_ret ?_
      refine rtT ?_
      refine rtE ?_
      exact gv1 rfl rfl h
    · rw [if_neg (neT hb10)] at h
      refine WC_skip ?_
      refine nrm ?_
      refine WC_seq ?_
      refine WC_region ?_
      refine WL_val gd0 ((o_move (v := .int .i64 b2) (by exact e1)) _) rfl ?_
      refine WL_val gd0 ((o_move (v := .int .i64 a1) (by exact e0)) _) rfl ?_
      refine WL_val gd0 ((o_neg rfl) _) rfl ?_
      refine WL_val gd0 ((o_move (v := .int .i64 bits3) (by exact e2)) _) rfl ?_
      refine WL_call gd0 (o_call Try.call32 (argCons rfl (argCons rfl (argCons rfl argNil))) _) rfl (h.mono ?_)
      rintro _ w11 ⟨t12, rfl, h⟩
      refine WL_val gd0 ((o_assign (v := .int .i64 t12) rfl) _) rfl ?_
      refine WL_nil ?_
      refine nrm ?_
      refine WC_ret ?_
      refine rtE ?_
      exact gv1 rfl rfl h

/-- (*spacecraft fop.window).release -/
def F30 (w1 : Option Addr) (n2 : Int) (w3 : World) (k : Value → World → Prop) : Prop :=
  ∃ (p4 : Addr), w1 = some p4 ∧ ∃ (x_a6 : Option Addr) (x_n7 x_c8 : Nat), w3.cell? (p4.add 1) = some (.slice x_a6 x_n7 x_c8) ∧ (0 : Int) ≤ n2 ∧ n2 ≤ (x_n7 : Int) ∧ Put w3 (p4.add 1) (.slice (cutA x_a6 x_c8 n2.toNat 1) (x_n7 - n2.toNat) (x_c8 - n2.toNat)) (fun w12 => ∃ (x14 : Int), w12.cell? (p4.add 2) = some (.int .i64 x14) ∧ Put w12 (p4.add 2) (.int .i64 (IntKind.i64.wrap (x14 + n2))) (fun w16 => ∃ (x18 : Int), w16.cell? (p4.add 4) = some (.int .i64 x18) ∧ Put w16 (p4.add 4) (.int .i64 (IntKind.i64.wrap (x18 - n2))) (fun w20 => ∃ (x22 : Int), w20.cell? (p4.add 3) = some (.int .i64 x22) ∧ Put w20 (p4.add 3) (.int .i64 (max 0 (IntKind.i64.wrap (x22 - n2)))) (fun w24 => k (.tuple #[]) w24))))
set_option maxRecDepth 100000 in
set_option maxHeartbeats 2000000 in
theorem w30 (w1 : Option Addr) (n2 : Int) (w3 : World) (k : Value → World → Prop) (h : F30 w1 n2 w3 k) : Does Try.prog 30 #[.pointer w1, .int .i64 n2] w3 k := by
  refine enter 39 Try.func30 rfl rfl rfl ?_
  intro ρ hρ
  have e0 := hρ 0 _ rfl
  have e1 := hρ 1 _ rfl
  unfold F30 at h
  refine WC_seq ?_
  refine WC_region ?_
  refine WL_val gd0 ((o_move (v := .pointer w1) (by exact e0)) _) rfl ?_
  refine WL_val gd0 ((o_move (v := .pointer w1) (by exact e0)) _) rfl ?_
  obtain ⟨p4, q5, h⟩ := h
  refine WL_val gd0 ((o_nilCheck (by exact (congrArg Value.pointer q5))) _) rfl ?_
  refine WL_val gd0 ((o_fieldAddr 1 Try.underlying46 rfl Try.sizeOf22 rfl rfl rfl) _) rfl ?_
  obtain ⟨x_a6, x_n7, x_c8, hc9, h⟩ := h
  refine WL_val gd0 (o_load Try.isAgg22 rfl hc9) rfl ?_
  refine WL_val gd0 ((o_move (v := .int .i64 n2) (by exact e1)) _) rfl ?_
  obtain ⟨c10, c11, h⟩ := h
  refine WL_val gd0 ((o_sliceL Try.underlying22 Try.sizeOf28 rfl rfl c10 c11) _) rfl ?_
  refine WL_val gd0 ((o_nilCheck (by exact (congrArg Value.pointer q5))) _) rfl ?_
  refine WL_val gd0 ((o_fieldAddr 1 Try.underlying46 rfl Try.sizeOf22 rfl rfl rfl) _) rfl ?_
  obtain ⟨c13, h⟩ := h
  refine WL_act gd0 (o_store (v := .slice (cutA x_a6 x_c8 n2.toNat 1) (x_n7 - n2.toNat) (x_c8 - n2.toNat)) Try.sizeOf22 rfl rfl rfl c13) ?_
  generalize hw12 : World.setCell w3 (p4.add 1) (.slice (cutA x_a6 x_c8 n2.toNat 1) (x_n7 - n2.toNat) (x_c8 - n2.toNat)) = w12 at h ⊢
  try dsimp only at h
  refine WL_nil ?_
  refine nrm ?_
  refine WC_seq ?_
  refine WC_region ?_
  refine WL_val gd0 ((o_move (v := .pointer w1) (by exact e0)) _) rfl ?_
  refine WL_val gd0 ((o_nilCheck (by exact (congrArg Value.pointer q5))) _) rfl ?_
  refine WL_val gd0 ((o_fieldAddr 2 Try.underlying46 rfl Try.sizeOf3 rfl rfl rfl) _) rfl ?_
  obtain ⟨x14, hc15, h⟩ := h
  refine WL_val gd0 (o_load Try.isAgg3 rfl hc15) rfl ?_
  refine WL_val gd0 ((o_move (v := .int .i64 n2) (by exact e1)) _) rfl ?_
  refine WL_val gd0 ((o_add rfl rfl) _) rfl ?_
  refine WL_val gd0 ((o_nilCheck (by exact (congrArg Value.pointer q5))) _) rfl ?_
  refine WL_val gd0 ((o_fieldAddr 2 Try.underlying46 rfl Try.sizeOf3 rfl rfl rfl) _) rfl ?_
  obtain ⟨c17, h⟩ := h
  refine WL_act gd0 (o_store (v := .int .i64 (IntKind.i64.wrap (x14 + n2))) Try.sizeOf3 rfl rfl rfl c17) ?_
  generalize hw16 : World.setCell w12 (p4.add 2) (.int .i64 (IntKind.i64.wrap (x14 + n2))) = w16 at h ⊢
  try dsimp only at h
  refine WL_nil ?_
  refine nrm ?_
  refine WC_seq ?_
  refine WC_region ?_
  refine WL_val gd0 ((o_move (v := .pointer w1) (by exact e0)) _) rfl ?_
  refine WL_val gd0 ((o_nilCheck (by exact (congrArg Value.pointer q5))) _) rfl ?_
  refine WL_val gd0 ((o_fieldAddr 4 Try.underlying46 rfl Try.sizeOf3 rfl rfl rfl) _) rfl ?_
  obtain ⟨x18, hc19, h⟩ := h
  refine WL_val gd0 (o_load Try.isAgg3 rfl hc19) rfl ?_
  refine WL_val gd0 ((o_move (v := .int .i64 n2) (by exact e1)) _) rfl ?_
  refine WL_val gd0 ((o_sub rfl rfl) _) rfl ?_
  refine WL_val gd0 ((o_nilCheck (by exact (congrArg Value.pointer q5))) _) rfl ?_
  refine WL_val gd0 ((o_fieldAddr 4 Try.underlying46 rfl Try.sizeOf3 rfl rfl rfl) _) rfl ?_
  obtain ⟨c21, h⟩ := h
  refine WL_act gd0 (o_store (v := .int .i64 (IntKind.i64.wrap (x18 - n2))) Try.sizeOf3 rfl rfl rfl c21) ?_
  generalize hw20 : World.setCell w16 (p4.add 4) (.int .i64 (IntKind.i64.wrap (x18 - n2))) = w20 at h ⊢
  try dsimp only at h
  refine WL_nil ?_
  refine nrm ?_
  refine WC_region ?_
  refine WL_val gd0 ((o_move (v := .pointer w1) (by exact e0)) _) rfl ?_
  refine WL_val gd0 ((o_move (v := .pointer w1) (by exact e0)) _) rfl ?_
  refine WL_val gd0 ((o_nilCheck (by exact (congrArg Value.pointer q5))) _) rfl ?_
  refine WL_val gd0 ((o_fieldAddr 3 Try.underlying46 rfl Try.sizeOf3 rfl rfl rfl) _) rfl ?_
  obtain ⟨x22, hc23, h⟩ := h
  refine WL_val gd0 (o_load Try.isAgg3 rfl hc23) rfl ?_
  refine WL_val gd0 ((o_move (v := .int .i64 n2) (by exact e1)) _) rfl ?_
  refine WL_val gd0 ((o_sub rfl rfl) _) rfl ?_
  refine WL_val gd0 ((o_max2 rfl rfl) _) rfl ?_
  refine WL_val gd0 ((o_nilCheck (by exact (congrArg Value.pointer q5))) _) rfl ?_
  refine WL_val gd0 ((o_fieldAddr 3 Try.underlying46 rfl Try.sizeOf3 rfl rfl rfl) _) rfl ?_
  obtain ⟨c25, h⟩ := h
  refine WL_act gd0 (o_store (v := .int .i64 (max 0 (IntKind.i64.wrap (x22 - n2)))) Try.sizeOf3 rfl rfl rfl c25) ?_
  generalize hw24 : World.setCell w20 (p4.add 3) (.int .i64 (max 0 (IntKind.i64.wrap (x22 - n2)))) = w24 at h ⊢
  try dsimp only at h
  refine WL_nil ?_
  refine ndE ?_
  exact gv0 rfl h


end Go.Proofs.Ythcebibacphblaa
