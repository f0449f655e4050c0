/-
  The forms of the functions, and their walks: written by a program of this claim (gen.py) off the elaborated translation.
-/
import Derived.Test.YtnaomgfdcadncaaProg
import Derived.Test.YtnaomgfdcadncaaBase
import Derived.KernelRfl
namespace Go.Proofs.Ytnaomgfdcadncaa
open Go Go.Sh Go.Proofs
set_option linter.unusedVariables false
theorem Try.mixed : Try.prog.follows .mixedOrders = true := by kernel_rfl
def F3_b4 (i108 : Int) (ends_n30 : Nat) (p114 : Addr) (size1 : Int) (lost_a5 : Option Addr) (lost_n6 : Nat) (lost_c7 : Nat) (got_n96 : Nat) (n106 : Int) (got_a95 : Option Addr) (all_n26 : Nat) (p120 : Addr) (whole136 : Bool) (k138 : Int) (w139 : World) (nx139 : Bool → Int → World → Prop) (k : Value → World → Prop) (nx109 : Int → Int → World → Prop) : Prop :=
  (0 : Int) ≤ i108 ∧ i108 < (ends_n30 : Int) ∧ ∃ (x143 : Int), w139.cell? (p114.add i108.toNat) = some (.int .i64 x143) ∧ size1 ≠ 0 ∧ if k138 ≤ (IntKind.i64.wrap (Int.tdiv (IntKind.i64.wrap (x143 - 1)) size1)) then
  if whole136 = true then
    Does Try.prog 9 #[.slice lost_a5 lost_n6 lost_c7, .int .i64 k138] w139 (fun v w148 => ∃ (x149 : Bool), v = .bool x149 ∧ nx139 (!x149) (IntKind.i64.wrap (k138 + 1)) w148)
  else
    nx139 false (IntKind.i64.wrap (k138 + 1)) w139
else
  if whole136 = true then
    if (got_n96 : Int) ≤ n106 then
      k (.bool false) w139.drew
    else
      ∃ (p154 : Addr), got_a95 = some p154 ∧ (0 : Int) ≤ n106 ∧ n106 < (got_n96 : Int) ∧ ∃ (x_a156 : Option Addr) (x_n157 x_c158 : Nat), w139.drew.cell? (p154.add n106.toNat) = some (.slice x_a156 x_n157 x_c158) ∧ ∃ (s160 : ByteArray), (Conv.bytesToString (.slice x_a156 x_n157 x_c158)).run Try.prog w139.drew = .ok (.string s160) w139.drew ∧ (0 : Int) ≤ i108 ∧ i108 < (all_n26 : Int) ∧ ∃ (x_a164 : Option Addr) (x_n165 x_c166 : Nat), w139.drew.cell? (p120.add i108.toNat) = some (.slice x_a164 x_n165 x_c166) ∧ ∃ (s168 : ByteArray), (Conv.bytesToString (.slice x_a164 x_n165 x_c166)).run Try.prog w139.drew = .ok (.string s168) w139.drew ∧ if (!(s160.toList == s168.toList)) = true then
        k (.bool false) w139.drew
      else
        nx109 (IntKind.i64.wrap (n106 + 1)) (IntKind.i64.wrap (i108 + 1)) w139.drew
  else
    nx109 n106 (IntKind.i64.wrap (i108 + 1)) w139
def F3_b3 (all_n26 : Nat) (ends_a29 : Option Addr) (ends_n30 : Nat) (all_a25 : Option Addr) (size1 : Int) (lost_a5 : Option Addr) (lost_n6 : Nat) (lost_c7 : Nat) (got_n96 : Nat) (got_a95 : Option Addr) (p14 : Option Addr) (n106 : Int) (i108 : Int) (w109 : World) (k : Value → World → Prop) (nx109 : Int → Int → World → Prop) : Prop :=
  if i108 < (all_n26 : Int) then
  ∃ (p114 : Addr), ends_a29 = some p114 ∧ (0 : Int) ≤ i108 ∧ i108 < (ends_n30 : Int) ∧ ∃ (x116 : Int), w109.drew.cell? (p114.add i108.toNat) = some (.int .i64 x116) ∧ ∃ (p120 : Addr), all_a25 = some p120 ∧ (0 : Int) ≤ i108 ∧ i108 < (all_n26 : Int) ∧ ∃ (x_a122 : Option Addr) (x_n123 x_c124 : Nat), w109.drew.cell? (p120.add i108.toNat) = some (.slice x_a122 x_n123 x_c124) ∧ size1 ≠ 0 ∧ LoopP (fun (s : Bool × Int) w' nx' => F3_b4 i108 ends_n30 p114 size1 lost_a5 lost_n6 lost_c7 got_n96 n106 got_a95 all_n26 p120 (s.1) (s.2) w' (fun x0 x1 w => nx' (x0, x1) w) k nx109) (true, (IntKind.i64.wrap (Int.tdiv (IntKind.i64.wrap (x116 - (x_n123 : Int))) size1))) w109.drew
else
  if n106 = (got_n96 : Int) then
    Does Try.prog 11 #[.pointer p14] w109 (fun v w172 => ∃ (x173 : Int), v = .int .i64 x173 ∧ k (.bool (decide (x173 = 0))) w172)
  else
    k (.bool false) w109
def F3_j2 (all_n26 : Nat) (ends_a29 : Option Addr) (ends_n30 : Nat) (all_a25 : Option Addr) (size1 : Int) (lost_a5 : Option Addr) (lost_n6 : Nat) (lost_c7 : Nat) (p14 : Option Addr) (got_a95 : Option Addr) (got_n96 : Nat) (got_c97 : Nat) (w98 : World) (k : Value → World → Prop) : Prop :=
  LoopP (fun (s : Int × Int) w' nx' => F3_b3 all_n26 ends_a29 ends_n30 all_a25 size1 lost_a5 lost_n6 lost_c7 got_n96 got_a95 p14 (s.1) (s.2) w' k (fun x0 x1 w => nx' (x0, x1) w)) (0, 0) w98
def F3_b5 (p14 : Option Addr) (all_n26 : Nat) (ends_a29 : Option Addr) (ends_n30 : Nat) (all_a25 : Option Addr) (size1 : Int) (lost_a5 : Option Addr) (lost_n6 : Nat) (lost_c7 : Nat) (u16 : Option Addr) (got_a181 : Option Addr) (got_n182 : Nat) (got_c183 : Nat) (k185 : Int) (w186 : World) (k : Value → World → Prop) (nx186 : Option Addr → Nat → Nat → Int → World → Prop) : Prop :=
  if k185 < 400 then
  Does Try.prog 8 #[.pointer p14] w186 (fun v w189 => ∃ (r_a190 : Option Addr) (r_n191 r_c192 : Nat) (r193 : Int) (r194 : Bool), v = .tuple #[.slice r_a190 r_n191 r_c192, .int .i64 r193, .bool r194] ∧ if (!r194) = true then
    F3_j2 all_n26 ends_a29 ends_n30 all_a25 size1 lost_a5 lost_n6 lost_c7 p14 got_a181 got_n182 got_c183 w189 k
  else
    if (r_n191 : Int) ≠ size1 then
      k (.bool false) w189
    else
      Does Try.prog 9 #[.slice lost_a5 lost_n6 lost_c7, .int .i64 k185] w189 (fun v w197 => ∃ (x198 : Bool), v = .bool x198 ∧ if (!x198) = true then
        Does Try.prog 10 #[.pointer u16, .int .i64 (Int.tmod k185 256), .int .i64 r193, .slice r_a190 r_n191 r_c192] w197 (fun v w200 => ∃ (x_a201 : Option Addr) (x_n202 x_c203 : Nat), v = .slice x_a201 x_n202 x_c203 ∧ ∃ (b_a204 : Option Addr) (b_n205 b_c206 : Nat) (w207 : World), (Builtin.append_ #[28, 28] 28 #[.slice got_a181 got_n182 got_c183, .slice x_a201 x_n202 x_c203]).run Try.prog w200 = .ok (.slice b_a204 b_n205 b_c206) w207 ∧ nx186 b_a204 b_n205 b_c206 (IntKind.i64.wrap (k185 + 1)) w207)
      else
        nx186 got_a181 got_n182 got_c183 (IntKind.i64.wrap (k185 + 1)) w197))
else
  F3_j2 all_n26 ends_a29 ends_n30 all_a25 size1 lost_a5 lost_n6 lost_c7 p14 got_a181 got_n182 got_c183 w186 k
def F3_b1 (lengths_n3 : Nat) (lengths_a2 : Option Addr) (p14 : Option Addr) (size1 : Int) (lost_a5 : Option Addr) (lost_n6 : Nat) (lost_c7 : Nat) (u16 : Option Addr) (all_a25 : Option Addr) (all_n26 : Nat) (all_c27 : Nat) (ends_a29 : Option Addr) (ends_n30 : Nat) (ends_c31 : Nat) (total33 : Int) (i35 : Int) (w36 : World) (k : Value → World → Prop) (nx36 : Option Addr → Nat → Nat → Option Addr → Nat → Nat → Int → Int → World → Prop) : Prop :=
  if i35 < (lengths_n3 : Int) then
  ∃ (p41 : Addr), lengths_a2 = some p41 ∧ (0 : Int) ≤ i35 ∧ i35 < (lengths_n3 : Int) ∧ ∃ (x43 : Int), w36.cell? (p41.add i35.toNat) = some (.int .i64 x43) ∧ if x43 < 1 then
    k (.bool true) w36
  else
    (0 : Int) ≤ i35 ∧ i35 < (lengths_n3 : Int) ∧ ∃ (x48 : Int), w36.cell? (p41.add i35.toNat) = some (.int .i64 x48) ∧ if 300 < x48 then
      k (.bool true) w36
    else
      (0 : Int) ≤ i35 ∧ i35 < (lengths_n3 : Int) ∧ ∃ (x53 : Int), w36.cell? (p41.add i35.toNat) = some (.int .i64 x53) ∧ ∃ (b_a55 : Option Addr) (b_n56 b_c57 : Nat) (w58 : World), (Instr.makeSlice 29 (.int .i64 x53) (.int .i64 x53)).run Try.prog w36 = .ok (.slice b_a55 b_n56 b_c57) w58 ∧ ∃ (p62 : Addr), b_a55 = some p62 ∧ (0 : Int) ≤ 0 ∧ 0 < (b_n56 : Int) ∧ Put w58 (p62.add ((0 : Int).toNat)) (.int .u8 (IntKind.u8.wrap i35)) (fun w64 => Does Try.prog 6 #[.agg #[.bool false, .bool false, .int .i64 7, .int .i64 3, .int .i64 i35, .slice b_a55 b_n56 b_c57]] w64 (fun v w66 => ∃ (r_a67 : Option Addr) (r_n68 r_c69 : Nat) (r70 : Int), v = .tuple #[.slice r_a67 r_n68 r_c69, .int .i64 r70] ∧ if r70 ≠ 0 then
        k (.bool false) w66
      else
        Does Try.prog 7 #[.pointer p14, .slice r_a67 r_n68 r_c69] w66 (fun v w72 => ∃ (x73 : Int), v = .int .i64 x73 ∧ if x73 ≠ 0 then
          k (.bool false) w72
        else
          New w72 29 [.slice r_a67 r_n68 r_c69] (fun p75 w76 => ∃ (b_a77 : Option Addr) (b_n78 b_c79 : Nat) (w80 : World), (Builtin.append_ #[28, 28] 28 #[.slice all_a25 all_n26 all_c27, .slice (some p75) 1 1]).run Try.prog w76 = .ok (.slice b_a77 b_n78 b_c79) w80 ∧ New w80 3 [.int .i64 (IntKind.i64.wrap (total33 + (r_n68 : Int)))] (fun p82 w83 => ∃ (b_a84 : Option Addr) (b_n85 b_c86 : Nat) (w87 : World), (Builtin.append_ #[22, 22] 22 #[.slice ends_a29 ends_n30 ends_c31, .slice (some p82) 1 1]).run Try.prog w83 = .ok (.slice b_a84 b_n85 b_c86) w87 ∧ nx36 b_a77 b_n78 b_c79 b_a84 b_n85 b_c86 (IntKind.i64.wrap (total33 + (r_n68 : Int))) (IntKind.i64.wrap (i35 + 1)) w87)))))
else
  LoopP (fun (s : Option Addr × Nat × Nat × Int) w' nx' => F3_b5 p14 all_n26 ends_a29 ends_n30 all_a25 size1 lost_a5 lost_n6 lost_c7 u16 (s.1) (s.2.1) (s.2.2.1) (s.2.2.2) w' k (fun x0 x1 x2 x3 w => nx' (x0, x1, x2, x3) w)) (none, 0, 0, 0) w36
/-- spacecraft spacecrafttop.TopPackets -/
def F3 (size1 : Int) (lengths_a2 : Option Addr) (lengths_n3 : Nat) (lengths_c4 : Nat) (lost_a5 : Option Addr) (lost_n6 : Nat) (lost_c7 : Nat) (w8 : World) (k : Value → World → Prop) : Prop :=
  if size1 < 20 then
  k (.bool true) w8
else
  if 200 < size1 then
    k (.bool true) w8
  else
    if 20 < (lengths_n3 : Int) then
      k (.bool true) w8
    else
      if 255 < (lost_n6 : Int) then
        k (.bool true) w8
      else
        Does Try.prog 4 #[.int .i64 size1, .int .i64 8192] w8 (fun v w13 => ∃ (p14 : Option Addr), v = .pointer p14 ∧ Does Try.prog 5 #[] w13 (fun v w15 => ∃ (u16 : Option Addr), v = .pointer u16 ∧ if (p14).isNone = true then
          k (.bool false) w15
        else
          if (u16).isNone = true then
            k (.bool false) w15
          else
            LoopP (fun (s : Option Addr × Nat × Nat × Option Addr × Nat × Nat × Int × Int) w' nx' => F3_b1 lengths_n3 lengths_a2 p14 size1 lost_a5 lost_n6 lost_c7 u16 (s.1) (s.2.1) (s.2.2.1) (s.2.2.2.1) (s.2.2.2.2.1) (s.2.2.2.2.2.1) (s.2.2.2.2.2.2.1) (s.2.2.2.2.2.2.2) w' k (fun x0 x1 x2 x3 x4 x5 x6 x7 w => nx' (x0, x1, x2, x3, x4, x5, x6, x7) w)) (none, 0, 0, none, 0, 0, 0, 0) w15))
set_option maxRecDepth 100000 in
set_option maxHeartbeats 2000000 in
theorem w3 (size1 : Int) (lengths_a2 : Option Addr) (lengths_n3 : Nat) (lengths_c4 : Nat) (lost_a5 : Option Addr) (lost_n6 : Nat) (lost_c7 : Nat) (w8 : World) (k : Value → World → Prop) (h : F3 size1 lengths_a2 lengths_n3 lengths_c4 lost_a5 lost_n6 lost_c7 w8 k) : Does Try.prog 3 #[.int .i64 size1, .slice lengths_a2 lengths_n3 lengths_c4, .slice lost_a5 lost_n6 lost_c7] w8 k := by
  refine enter 197 Try.func3 rfl rfl rfl ?_
  intro ρ hρ
  have e0 := hρ 0 _ rfl
  have e1 := hρ 1 _ rfl
  have e2 := hρ 2 _ rfl
  unfold F3 at h
  refine WC_seq ?_
  refine WC_region ?_
  refine WL_val gd0 ((o_assign (v := .bool false) rfl) _) rfl ?_
  refine WL_nil ?_
  refine nrm ?_
  refine WC_seq ?_
  refine WC_seq ?_
  refine WC_region ?_
  refine WL_val gd0 ((o_move (v := .int .i64 size1) (by exact e0)) _) rfl ?_
  refine WL_val gd0 ((o_lss rfl rfl) _) rfl ?_
  refine WL_val gd0 ((o_move (v := .bool (decide (size1 < 20))) rfl) _) rfl ?_
  refine bsplit (decide (size1 < 20)) (fun hb9 => ?_) (fun hb9 => ?_)
  · rw [if_pos (of_decide_eq_true hb9)] at h
    refine WL_skip (gdN (b := (decide (size1 < 20))) 27 rfl rfl hb9) rfl ?_
    refine WL_skip (gdN (b := (decide (size1 < 20))) 27 rfl rfl hb9) rfl ?_
    refine WL_val gd0 ((o_pickT (v := .bool true) rfl hb9 rfl) _) rfl ?_
    refine WL_val gd0 ((o_move (v := .bool true) rfl) _) rfl ?_
    refine WL_skip (gdN (b := true) 31 rfl rfl rfl) rfl ?_
    refine WL_skip (gdN (b := true) 31 rfl rfl rfl) rfl ?_
    refine WL_skip (gdN (b := true) 31 rfl rfl rfl) rfl ?_
    refine WL_val gd0 ((o_pickT (v := .bool true) rfl rfl rfl) _) rfl ?_
    refine WL_val gd0 ((o_move (v := .bool true) rfl) _) rfl ?_
    refine WL_skip (gdN (b := true) 36 rfl rfl rfl) rfl ?_
    refine WL_skip (gdN (b := true) 36 rfl rfl rfl) rfl ?_
    refine WL_skip (gdN (b := true) 36 rfl rfl rfl) rfl ?_
    refine WL_val gd0 ((o_pickT (v := .bool true) rfl rfl rfl) _) rfl ?_
    refine WL_nil ?_
    refine nrm ?_
    refine WC_cond (t := true) rfl (fun _ => ?_) (fun hx => by rw [(rfl : true = true)] at hx; cases hx)
    refine WC_seq ?_
    refine WC_region ?_
    refine WL_val gd0 ((o_assign (v := .bool true) rfl) _) rfl ?_
    refine WL_nil ?_
    refine nrm ?_
    refine WC_ret ?_
    refine rtT ?_
    refine rtE ?_
    exact gv1 rfl rfl h
  · rw [if_neg (of_decide_eq_false hb9)] at h
    refine WL_val (gdY (b := (decide (size1 < 20))) 27 rfl rfl hb9) ((o_move (v := .int .i64 size1) (by exact e0)) _) rfl ?_
    refine WL_val (gdY (b := (decide (size1 < 20))) 27 rfl rfl hb9) ((o_gtr rfl rfl) _) rfl ?_
    refine WL_val gd0 ((o_pickF (v := .bool (decide (200 < size1))) rfl hb9 rfl) _) rfl ?_
    refine WL_val gd0 ((o_move (v := .bool (decide (200 < size1))) rfl) _) rfl ?_
    refine bsplit (decide (200 < size1)) (fun hb10 => ?_) (fun hb10 => ?_)
    · rw [if_pos (of_decide_eq_true hb10)] at h
      refine WL_skip (gdN (b := (decide (200 < size1))) 31 rfl rfl hb10) rfl ?_
      refine WL_skip (gdN (b := (decide (200 < size1))) 31 rfl rfl hb10) rfl ?_
      refine WL_skip (gdN (b := (decide (200 < size1))) 31 rfl rfl hb10) rfl ?_
      refine WL_val gd0 ((o_pickT (v := .bool true) rfl hb10 rfl) _) rfl ?_
      refine WL_val gd0 ((o_move (v := .bool true) rfl) _) rfl ?_
      refine WL_skip (gdN (b := true) 36 rfl rfl rfl) rfl ?_
      refine WL_skip (gdN (b := true) 36 rfl rfl rfl) rfl ?_
      refine WL_skip (gdN (b := true) 36 rfl rfl rfl) rfl ?_
      refine WL_val gd0 ((o_pickT (v := .bool true) rfl rfl rfl) _) rfl ?_
      refine WL_nil ?_
      refine nrm ?_
      refine WC_cond (t := true) rfl (fun _ => ?_) (fun hx => by rw [(rfl : true = true)] at hx; cases hx)
      refine WC_seq ?_
      refine WC_region ?_
      refine WL_val gd0 ((o_assign (v := .bool true) rfl) _) rfl ?_
      refine WL_nil ?_
      refine nrm ?_
      refine WC_ret ?_
      refine rtT ?_
      refine rtE ?_
      exact gv1 rfl rfl h
    · rw [if_neg (of_decide_eq_false hb10)] at h
      refine WL_val (gdY (b := (decide (200 < size1))) 31 rfl rfl hb10) ((o_move (v := .slice lengths_a2 lengths_n3 lengths_c4) (by exact e1)) _) rfl ?_
      refine WL_val (gdY (b := (decide (200 < size1))) 31 rfl rfl hb10) ((o_len Try.underlying22 rfl) _) rfl ?_
      refine WL_val (gdY (b := (decide (200 < size1))) 31 rfl rfl hb10) ((o_gtr rfl rfl) _) rfl ?_
      refine WL_val gd0 ((o_pickF (v := .bool (decide (20 < (lengths_n3 : Int)))) rfl hb10 rfl) _) rfl ?_
      refine WL_val gd0 ((o_move (v := .bool (decide (20 < (lengths_n3 : Int)))) rfl) _) rfl ?_
      refine bsplit (decide (20 < (lengths_n3 : Int))) (fun hb11 => ?_) (fun hb11 => ?_)
      · rw [if_pos (of_decide_eq_true hb11)] at h
        refine WL_skip (gdN (b := (decide (20 < (lengths_n3 : Int)))) 36 rfl rfl hb11) rfl ?_
        refine WL_skip (gdN (b := (decide (20 < (lengths_n3 : Int)))) 36 rfl rfl hb11) rfl ?_
        refine WL_skip (gdN (b := (decide (20 < (lengths_n3 : Int)))) 36 rfl rfl hb11) rfl ?_
        refine WL_val gd0 ((o_pickT (v := .bool true) rfl hb11 rfl) _) rfl ?_
        refine WL_nil ?_
        refine nrm ?_
        refine WC_cond (t := true) rfl (fun _ => ?_) (fun hx => by rw [(rfl : true = true)] at hx; cases hx)
        refine WC_seq ?_
        refine WC_region ?_
        refine WL_val gd0 ((o_assign (v := .bool true) rfl) _) rfl ?_
        refine WL_nil ?_
        refine nrm ?_
        refine WC_ret ?_
        refine rtT ?_
        refine rtE ?_
        exact gv1 rfl rfl h
      · rw [if_neg (of_decide_eq_false hb11)] at h
        refine WL_val (gdY (b := (decide (20 < (lengths_n3 : Int)))) 36 rfl rfl hb11) ((o_move (v := .slice lost_a5 lost_n6 lost_c7) (by exact e2)) _) rfl ?_
        refine WL_val (gdY (b := (decide (20 < (lengths_n3 : Int)))) 36 rfl rfl hb11) ((o_len Try.underlying23 rfl) _) rfl ?_
        refine WL_val (gdY (b := (decide (20 < (lengths_n3 : Int)))) 36 rfl rfl hb11) ((o_gtr rfl rfl) _) rfl ?_
        refine WL_val gd0 ((o_pickF (v := .bool (decide (255 < (lost_n6 : Int)))) rfl hb11 rfl) _) rfl ?_
        refine WL_nil ?_
        refine nrm ?_
        refine WC_cond (t := (decide (255 < (lost_n6 : Int)))) rfl (fun hb12 => ?_) (fun hb12 => ?_)
        · rw [if_pos (of_decide_eq_true hb12)] at h
          refine WC_seq ?_
          refine WC_region ?_
          refine WL_val gd0 ((o_assign (v := .bool true) rfl) _) rfl ?_
          refine WL_nil ?_
          refine nrm ?_
          refine WC_ret ?_
          refine rtT ?_
          refine rtE ?_
          exact gv1 rfl rfl h
        · rw [if_neg (of_decide_eq_false hb12)] at h
          refine WC_skip ?_
          refine nrm ?_
          refine WC_seq ?_
          refine WC_region ?_
          refine WL_val gd0 ((o_move (v := .int .i64 size1) (by exact e0)) _) rfl ?_
          refine WL_call gd0 (o_call Try.call4 (argCons rfl (argCons rfl argNil)) _) rfl (h.mono ?_)
          rintro _ w13 ⟨p14, rfl, h⟩
          refine WL_val gd0 ((o_assign (v := .pointer p14) rfl) _) rfl ?_
          refine WL_nil ?_
          refine nrm ?_
          refine WC_seq ?_
          refine WC_region ?_
          refine WL_call gd0 (o_call Try.call5 argNil _) rfl (h.mono ?_)
          rintro _ w15 ⟨u16, rfl, h⟩
          refine WL_val gd0 ((o_assign (v := .pointer u16) rfl) _) rfl ?_
          refine WL_nil ?_
          refine nrm ?_
          refine WC_seq ?_
          refine WC_seq ?_
          refine WC_region ?_
          refine WL_val gd0 ((o_move (v := .pointer p14) rfl) _) rfl ?_
          refine WL_val gd0 ((o_eqlPtrNil Try.underlying24 rfl rfl) _) rfl ?_
          refine WL_val gd0 ((o_move (v := .bool ((p14).isNone)) rfl) _) rfl ?_
          refine bsplit ((p14).isNone) (fun hb17 => ?_) (fun hb17 => ?_)
          · rw [if_pos hb17] at h
            refine WL_skip (gdN (b := ((p14).isNone)) 46 rfl rfl hb17) rfl ?_
            refine WL_skip (gdN (b := ((p14).isNone)) 46 rfl rfl hb17) rfl ?_
            refine WL_val gd0 ((o_pickT (v := .bool true) rfl hb17 rfl) _) rfl ?_
            refine WL_nil ?_
            refine nrm ?_
            refine WC_cond (t := true) rfl (fun _ => ?_) (fun hx => by rw [(rfl : true = true)] at hx; cases hx)
            refine WC_seq ?_
            refine WC_region ?_
            refine WL_val gd0 ((o_assign (v := .bool false) rfl) _) rfl ?_
            refine WL_nil ?_
            refine nrm ?_
            refine WC_ret ?_
            refine rtT ?_
            refine rtE ?_
            exact gv1 rfl rfl h
          · rw [if_neg (neT hb17)] at h
            refine WL_val (gdY (b := ((p14).isNone)) 46 rfl rfl hb17) ((o_move (v := .pointer u16) rfl) _) rfl ?_
            refine WL_val (gdY (b := ((p14).isNone)) 46 rfl rfl hb17) ((o_eqlPtrNil Try.underlying26 rfl rfl) _) rfl ?_
            refine WL_val gd0 ((o_pickF (v := .bool ((u16).isNone)) rfl hb17 rfl) _) rfl ?_
            refine WL_nil ?_
            refine nrm ?_
            refine WC_cond (t := ((u16).isNone)) rfl (fun hb18 => ?_) (fun hb18 => ?_)
            · rw [if_pos hb18] at h
              refine WC_seq ?_
              refine WC_region ?_
              refine WL_val gd0 ((o_assign (v := .bool false) rfl) _) rfl ?_
              refine WL_nil ?_
              refine nrm ?_
              refine WC_ret ?_
              refine rtT ?_
              refine rtE ?_
              exact gv1 rfl rfl h
            · rw [if_neg (neT hb18)] at h
              refine WC_skip ?_
              refine nrm ?_
              refine WC_seq ?_
              refine WC_region ?_
              refine WL_val gd0 ((o_assign (v := .slice none 0 0) rfl) _) rfl ?_
              refine WL_nil ?_
              refine nrm ?_
              refine WC_seq ?_
              refine WC_region ?_
              refine WL_val gd0 ((o_assign (v := .slice none 0 0) rfl) _) rfl ?_
              refine WL_nil ?_
              refine nrm ?_
              refine WC_seq ?_
              refine WC_region ?_
              refine WL_val gd0 ((o_assign (v := .int .i64 0) rfl) _) rfl ?_
              refine WL_nil ?_
              refine nrm ?_
              refine WC_seq ?_
              refine WC_seq ?_
              refine WC_region ?_
              refine WL_val gd0 ((o_assign (v := .int .i64 0) rfl) _) rfl ?_
              refine WL_nil ?_
              refine nrm ?_
              refine WC_block ?_
              obtain ⟨J36, ⟨n36, h0⟩, hr36⟩ := h
              refine WC_loop (fun n ρ w' => ∃ (all_a25 : Option Addr) (all_n26 all_c27 : Nat) (ends_a29 : Option Addr) (ends_n30 ends_c31 : Nat) (total33 i35 : Int), ρ 9 = .slice all_a25 all_n26 all_c27 ∧ ρ 10 = .slice ends_a29 ends_n30 ends_c31 ∧ ρ 11 = .int .i64 total33 ∧ ρ 12 = .int .i64 i35 ∧ ρ 0 = .int .i64 size1 ∧ ρ 1 = .slice lengths_a2 lengths_n3 lengths_c4 ∧ ρ 2 = .slice lost_a5 lost_n6 lost_c7 ∧ ρ 7 = .pointer p14 ∧ ρ 8 = .pointer u16 ∧ J36 n (all_a25, all_n26, all_c27, ends_a29, ends_n30, ends_c31, total33, i35) w') ⟨n36, _, _, _, _, _, _, _, _, rfl, rfl, rfl, rfl, e0, e1, e2, rfl, rfl, h0⟩ ?_
              rintro n36 ρ w36 ⟨all_a25, all_n26, all_c27, ends_a29, ends_n30, ends_c31, total33, i35, e9_24, e10_28, e11_32, e12_34, e0_19, e1_20, e2_21, e7_22, e8_23, h⟩
              have h : F3_b1 lengths_n3 lengths_a2 p14 size1 lost_a5 lost_n6 lost_c7 u16 all_a25 all_n26 all_c27 ends_a29 ends_n30 ends_c31 total33 i35 w36 k (fun x0 x1 x2 x3 x4 x5 x6 x7 w => ∃ m, m < n36 ∧ J36 m (x0, x1, x2, x3, x4, x5, x6, x7) w) := hr36 n36 (all_a25, all_n26, all_c27, ends_a29, ends_n30, ends_c31, total33, i35) w36 h
              unfold F3_b1 at h
              refine WC_seq ?_
              refine WC_seq ?_
              refine WC_region ?_
              refine WL_val gd0 ((o_move (v := .int .i64 i35) (by exact e12_34)) _) rfl ?_
              refine WL_val gd0 ((o_move (v := .slice lengths_a2 lengths_n3 lengths_c4) (by exact e1_20)) _) rfl ?_
              refine WL_val gd0 ((o_len Try.underlying22 rfl) _) rfl ?_
              refine WL_val gd0 ((o_lss rfl rfl) _) rfl ?_
              refine WL_nil ?_
              refine nrm ?_
              refine WC_cond (t := (decide (i35 < (lengths_n3 : Int)))) rfl (fun hb38 => ?_) (fun hb38 => ?_)
              · rw [if_pos (of_decide_eq_true hb38)] at h
                refine WC_skip ?_
                refine nrm ?_
                refine WC_seq ?_
                refine WC_block ?_
                refine WC_seq ?_
                refine WC_seq ?_
                refine WC_region ?_
                refine WL_val gd0 ((o_move (v := .slice lengths_a2 lengths_n3 lengths_c4) (by exact e1_20)) _) rfl ?_
                refine WL_val gd0 ((o_move (v := .int .i64 i35) (by exact e12_34)) _) rfl ?_
                obtain ⟨p41, q42, h⟩ := h
                obtain ⟨l39, u40, h⟩ := h
                refine WL_val gd0 ((o_indexAddr1 Try.underlying22 Try.sizeOf3 (by exact (congrArg (fun z => Value.slice z lengths_n3 lengths_c4) q42)) rfl l39 u40) _) rfl ?_
                obtain ⟨x43, hc44, h⟩ := h
                refine WL_val gd0 (o_load Try.isAgg3 rfl hc44) rfl ?_
                refine WL_val gd0 ((o_lss rfl rfl) _) rfl ?_
                refine WL_val gd0 ((o_move (v := .bool (decide (x43 < 1))) rfl) _) rfl ?_
                refine bsplit (decide (x43 < 1)) (fun hb45 => ?_) (fun hb45 => ?_)
                · rw [if_pos (of_decide_eq_true hb45)] at h
                  refine WL_skip (gdN (b := (decide (x43 < 1))) 61 rfl rfl hb45) rfl ?_
                  refine WL_skip (gdN (b := (decide (x43 < 1))) 61 rfl rfl hb45) rfl ?_
                  refine WL_skip (gdN (b := (decide (x43 < 1))) 61 rfl rfl hb45) rfl ?_
                  refine WL_skip (gdN (b := (decide (x43 < 1))) 61 rfl rfl hb45) rfl ?_
                  refine WL_skip (gdN (b := (decide (x43 < 1))) 61 rfl rfl hb45) rfl ?_
                  refine WL_val gd0 ((o_pickT (v := .bool true) rfl hb45 rfl) _) rfl ?_
                  refine WL_nil ?_
                  refine nrm ?_
                  refine WC_cond (t := true) rfl (fun _ => ?_) (fun hx => by rw [(rfl : true = true)] at hx; cases hx)
                  refine WC_seq ?_
                  refine WC_region ?_
                  refine WL_val gd0 ((o_assign (v := .bool true) rfl) _) rfl ?_
                  refine WL_nil ?_
                  refine nrm ?_
                  refine WC_ret ?_
                  refine rtT ?_
                  refine rtB ?_
                  refine rtT ?_
                  refine rtT ?_
                  refine rtB ?_
                  refine rtT ?_
                  refine rtE ?_
                  exact gv1 rfl rfl h
                · rw [if_neg (of_decide_eq_false hb45)] at h
                  refine WL_val (gdY (b := (decide (x43 < 1))) 61 rfl rfl hb45) ((o_move (v := .slice lengths_a2 lengths_n3 lengths_c4) (by exact e1_20)) _) rfl ?_
                  refine WL_val (gdY (b := (decide (x43 < 1))) 61 rfl rfl hb45) ((o_move (v := .int .i64 i35) (by exact e12_34)) _) rfl ?_
                  obtain ⟨l46, u47, h⟩ := h
                  refine WL_val (gdY (b := (decide (x43 < 1))) 61 rfl rfl hb45) ((o_indexAddr1 Try.underlying22 Try.sizeOf3 (by exact (congrArg (fun z => Value.slice z lengths_n3 lengths_c4) q42)) rfl l46 u47) _) rfl ?_
                  obtain ⟨x48, hc49, h⟩ := h
                  refine WL_val (gdY (b := (decide (x43 < 1))) 61 rfl rfl hb45) (o_load Try.isAgg3 rfl hc49) rfl ?_
                  refine WL_val (gdY (b := (decide (x43 < 1))) 61 rfl rfl hb45) ((o_gtr rfl rfl) _) rfl ?_
                  refine WL_val gd0 ((o_pickF (v := .bool (decide (300 < x48))) rfl hb45 rfl) _) rfl ?_
                  refine WL_nil ?_
                  refine nrm ?_
                  refine WC_cond (t := (decide (300 < x48))) rfl (fun hb50 => ?_) (fun hb50 => ?_)
                  · rw [if_pos (of_decide_eq_true hb50)] at h
                    refine WC_seq ?_
                    refine WC_region ?_
                    refine WL_val gd0 ((o_assign (v := .bool true) rfl) _) rfl ?_
                    refine WL_nil ?_
                    refine nrm ?_
                    refine WC_ret ?_
                    refine rtT ?_
                    refine rtB ?_
                    refine rtT ?_
                    refine rtT ?_
                    refine rtB ?_
                    refine rtT ?_
                    refine rtE ?_
                    exact gv1 rfl rfl h
                  · rw [if_neg (of_decide_eq_false hb50)] at h
                    refine WC_skip ?_
                    refine nrm ?_
                    refine WC_seq ?_
                    refine WC_region ?_
                    refine WL_val gd0 ((o_move (v := .slice lengths_a2 lengths_n3 lengths_c4) (by exact e1_20)) _) rfl ?_
                    refine WL_val gd0 ((o_move (v := .int .i64 i35) (by exact e12_34)) _) rfl ?_
                    obtain ⟨l51, u52, h⟩ := h
                    refine WL_val gd0 ((o_indexAddr1 Try.underlying22 Try.sizeOf3 (by exact (congrArg (fun z => Value.slice z lengths_n3 lengths_c4) q42)) rfl l51 u52) _) rfl ?_
                    obtain ⟨x53, hc54, h⟩ := h
                    refine WL_val gd0 (o_load Try.isAgg3 rfl hc54) rfl ?_
                    obtain ⟨b_a55, b_n56, b_c57, w58, r59, h⟩ := h
                    refine WL_val gd0 (o_makeSlice rfl rfl r59) rfl ?_
                    refine WL_val gd0 ((o_assign (v := .slice b_a55 b_n56 b_c57) rfl) _) rfl ?_
                    refine WL_nil ?_
                    refine nrm ?_
                    refine WC_seq ?_
                    refine WC_region ?_
                    refine WL_val gd0 ((o_move (v := .slice b_a55 b_n56 b_c57) rfl) _) rfl ?_
                    refine WL_val gd0 ((o_move (v := .int .i64 i35) (by exact e12_34)) _) rfl ?_
                    refine WL_val gd0 ((o_conv Try.underlying3 Try.underlying5 rfl) _) rfl ?_
                    obtain ⟨p62, q63, h⟩ := h
                    obtain ⟨l60, u61, h⟩ := h
                    refine WL_val gd0 ((o_indexAddr1 Try.underlying29 Try.sizeOf5 (by exact (congrArg (fun z => Value.slice z b_n56 b_c57) q63)) rfl l60 u61) _) rfl ?_
                    obtain ⟨c65, h⟩ := h
                    refine WL_act gd0 (o_store (v := .int .u8 (IntKind.u8.wrap i35)) Try.sizeOf5 rfl rfl rfl c65) ?_
                    generalize hw64 : World.setCell w58 (p62.add ((0 : Int).toNat)) (.int .u8 (IntKind.u8.wrap i35)) = w64 at h ⊢
                    try dsimp only at h
                    refine WL_nil ?_
                    refine nrm ?_
                    refine WC_seq ?_
                    refine WC_region ?_
                    refine WL_val gd0 ((o_move (v := .int .i64 i35) (by exact e12_34)) _) rfl ?_
                    refine WL_val gd0 ((o_move (v := .slice b_a55 b_n56 b_c57) rfl) _) rfl ?_
                    refine WL_val gd0 ((o_build (ps := [(2, .int .i64 7), (3, .int .i64 3), (4, .int .i64 i35), (5, .slice b_a55 b_n56 b_c57)]) (v := .agg #[.bool false, .bool false, .int .i64 7, .int .i64 3, .int .i64 i35, .slice b_a55 b_n56 b_c57]) (partCons rfl (partCons rfl (partCons rfl (partCons rfl partNil)))) (fun w => by kernel_rfl)) _) rfl ?_
                    refine WL_call gd0 (o_call Try.call6 (argCons rfl argNil) _) rfl (h.mono ?_)
                    rintro _ w66 ⟨r_a67, r_n68, r_c69, r70, rfl, h⟩
                    refine WL_val gd0 ((o_move (v := .tuple #[.slice r_a67 r_n68 r_c69, .int .i64 r70]) rfl) _) rfl ?_
                    refine WL_val gd0 ((o_extract (vs := [.slice r_a67 r_n68 r_c69, .int .i64 r70]) (r := .slice r_a67 r_n68 r_c69) rfl rfl) _) rfl ?_
                    refine WL_val gd0 ((o_extract (vs := [.slice r_a67 r_n68 r_c69, .int .i64 r70]) (r := .int .i64 r70) rfl rfl) _) rfl ?_
                    refine WL_val gd0 ((o_assign (v := .slice r_a67 r_n68 r_c69) rfl) _) rfl ?_
                    refine WL_val gd0 ((o_assign (v := .int .i64 r70) rfl) _) rfl ?_
                    refine WL_nil ?_
                    refine nrm ?_
                    refine WC_seq ?_
                    refine WC_seq ?_
                    refine WC_region ?_
                    refine WL_val gd0 ((o_move (v := .int .i64 r70) rfl) _) rfl ?_
                    refine WL_val gd0 ((o_neq rfl rfl) _) rfl ?_
                    refine WL_val gd0 ((o_move (v := .bool (decide (r70 ≠ 0))) rfl) _) rfl ?_
                    refine bsplit (decide (r70 ≠ 0)) (fun hb71 => ?_) (fun hb71 => ?_)
                    · rw [if_pos (of_decide_eq_true hb71)] at h
                      refine WL_skip (gdN (b := (decide (r70 ≠ 0))) 86 rfl rfl hb71) rfl ?_
                      refine WL_skip (gdN (b := (decide (r70 ≠ 0))) 86 rfl rfl hb71) rfl ?_
                      refine WL_skip (gdN (b := (decide (r70 ≠ 0))) 86 rfl rfl hb71) rfl ?_
                      refine WL_skip (gdN (b := (decide (r70 ≠ 0))) 86 rfl rfl hb71) rfl ?_
                      refine WL_val gd0 ((o_pickT (v := .bool true) rfl hb71 rfl) _) rfl ?_
                      refine WL_nil ?_
                      refine nrm ?_
                      refine WC_cond (t := true) rfl (fun _ => ?_) (fun hx => by rw [(rfl : true = true)] at hx; cases hx)
                      refine WC_seq ?_
                      refine WC_region ?_
                      refine WL_val gd0 ((o_assign (v := .bool false) rfl) _) rfl ?_
                      refine WL_nil ?_
                      refine nrm ?_
                      refine WC_ret ?_
                      refine rtT ?_
                      refine rtB ?_
                      refine rtT ?_
                      refine rtT ?_
                      refine rtB ?_
                      refine rtT ?_
                      refine rtE ?_
                      exact gv1 rfl rfl h
                    · rw [if_neg (of_decide_eq_false hb71)] at h
                      refine WL_val (gdY (b := (decide (r70 ≠ 0))) 86 rfl rfl hb71) ((o_move (v := .pointer p14) (by exact e7_22)) _) rfl ?_
                      refine WL_val (gdY (b := (decide (r70 ≠ 0))) 86 rfl rfl hb71) ((o_move (v := .slice r_a67 r_n68 r_c69) rfl) _) rfl ?_
                      refine WL_call (gdY (b := (decide (r70 ≠ 0))) 86 rfl rfl hb71) (o_call Try.call7 (argCons rfl (argCons rfl argNil)) _) rfl (h.mono ?_)
                      rintro _ w72 ⟨x73, rfl, h⟩
                      refine WL_val (gdY (b := (decide (r70 ≠ 0))) 86 rfl rfl hb71) ((o_neq rfl rfl) _) rfl ?_
                      refine WL_val gd0 ((o_pickF (v := .bool (decide (x73 ≠ 0))) rfl hb71 rfl) _) rfl ?_
                      refine WL_nil ?_
                      refine nrm ?_
                      refine WC_cond (t := (decide (x73 ≠ 0))) rfl (fun hb74 => ?_) (fun hb74 => ?_)
                      · rw [if_pos (of_decide_eq_true hb74)] at h
                        refine WC_seq ?_
                        refine WC_region ?_
                        refine WL_val gd0 ((o_assign (v := .bool false) rfl) _) rfl ?_
                        refine WL_nil ?_
                        refine nrm ?_
                        refine WC_ret ?_
                        refine rtT ?_
                        refine rtB ?_
                        refine rtT ?_
                        refine rtT ?_
                        refine rtB ?_
                        refine rtT ?_
                        refine rtE ?_
                        exact gv1 rfl rfl h
                      · rw [if_neg (of_decide_eq_false hb74)] at h
                        refine WC_skip ?_
                        refine nrm ?_
                        refine WC_seq ?_
                        refine WC_region ?_
                        refine WL_val gd0 ((o_move (v := .slice all_a25 all_n26 all_c27) (by exact e9_24)) _) rfl ?_
                        refine WL_val gd0 ((o_move (v := .slice r_a67 r_n68 r_c69) rfl) _) rfl ?_
                        have h := New.out h
                        refine WL_val gd0 (o_buildSlice (e := 29) (ps := [(0, .slice r_a67 r_n68 r_c69)]) (cs := [.slice r_a67 r_n68 r_c69]) (partCons rfl partNil) (fun w => by kernel_rfl)) rfl ?_
                        generalize hp75 : fresh w72 = p75 at h ⊢
                        generalize hw76 : push w72 29 [.slice r_a67 r_n68 r_c69] = w76 at h ⊢
                        try dsimp only at h
                        obtain ⟨b_a77, b_n78, b_c79, w80, r81, h⟩ := h
                        refine WL_val gd0 (o_append rfl rfl r81) rfl ?_
                        refine WL_val gd0 ((o_assign (v := .slice b_a77 b_n78 b_c79) rfl) _) rfl ?_
                        refine WL_nil ?_
                        refine nrm ?_
                        refine WC_seq ?_
                        refine WC_region ?_
                        refine WL_val gd0 ((o_move (v := .int .i64 total33) (by exact e11_32)) _) rfl ?_
                        refine WL_val gd0 ((o_move (v := .slice r_a67 r_n68 r_c69) rfl) _) rfl ?_
                        refine WL_val gd0 ((o_len Try.underlying29 rfl) _) rfl ?_
                        refine WL_val gd0 ((o_add rfl rfl) _) rfl ?_
                        refine WL_val gd0 ((o_assign (v := .int .i64 (IntKind.i64.wrap (total33 + (r_n68 : Int)))) rfl) _) rfl ?_
                        refine WL_nil ?_
                        refine nrm ?_
                        refine WC_region ?_
                        refine WL_val gd0 ((o_move (v := .slice ends_a29 ends_n30 ends_c31) (by exact e10_28)) _) rfl ?_
                        refine WL_val gd0 ((o_move (v := .int .i64 (IntKind.i64.wrap (total33 + (r_n68 : Int)))) rfl) _) rfl ?_
                        have h := New.out h
                        refine WL_val gd0 (o_buildSlice (e := 3) (ps := [(0, .int .i64 (IntKind.i64.wrap (total33 + (r_n68 : Int))))]) (cs := [.int .i64 (IntKind.i64.wrap (total33 + (r_n68 : Int)))]) (partCons rfl partNil) (fun w => by kernel_rfl)) rfl ?_
                        generalize hp82 : fresh w80 = p82 at h ⊢
                        generalize hw83 : push w80 3 [.int .i64 (IntKind.i64.wrap (total33 + (r_n68 : Int)))] = w83 at h ⊢
                        try dsimp only at h
                        obtain ⟨b_a84, b_n85, b_c86, w87, r88, h⟩ := h
                        refine WL_val gd0 (o_append rfl rfl r88) rfl ?_
                        refine WL_val gd0 ((o_assign (v := .slice b_a84 b_n85 b_c86) rfl) _) rfl ?_
                        refine WL_nil ?_
                        refine nrmB ?_
                        refine nrm ?_
                        refine WC_region ?_
                        refine WL_val gd0 ((o_move (v := .int .i64 i35) (by exact e12_34)) _) rfl ?_
                        refine WL_val gd0 ((o_add rfl rfl) _) rfl ?_
                        refine WL_val gd0 ((o_assign (v := .int .i64 (IntKind.i64.wrap (i35 + 1))) rfl) _) rfl ?_
                        refine WL_nil ?_
                        refine nrm ?_
                        obtain ⟨m37, hm37, h⟩ := h
                        exact ⟨m37, hm37, _, _, _, _, _, _, _, _, rfl, rfl, rfl, rfl, e0_19, e1_20, e2_21, e7_22, e8_23, h⟩
              · rw [if_neg (of_decide_eq_false hb38)] at h
                refine WC_exit ?_
                refine exT ?_
                refine exT ?_
                refine exB ?_
                refine nrm ?_
                refine WC_seq ?_
                refine WC_region ?_
                refine WL_val gd0 ((o_assign (v := .slice none 0 0) rfl) _) rfl ?_
                refine WL_nil ?_
                refine nrm ?_
                refine WC_cut (fun ρ w' => ∃ (got_a95 : Option Addr) (got_n96 got_c97 : Nat), ρ 16 = .slice got_a95 got_n96 got_c97 ∧ ρ 0 = .int .i64 size1 ∧ ρ 2 = .slice lost_a5 lost_n6 lost_c7 ∧ ρ 7 = .pointer p14 ∧ ρ 9 = .slice all_a25 all_n26 all_c27 ∧ ρ 10 = .slice ends_a29 ends_n30 ends_c31 ∧ F3_j2 all_n26 ends_a29 ends_n30 all_a25 size1 lost_a5 lost_n6 lost_c7 p14 got_a95 got_n96 got_c97 w' k) ?_ ?_
                · refine WC_seq ?_
                  refine WC_region ?_
                  refine WL_val gd0 ((o_assign (v := .int .i64 0) rfl) _) rfl ?_
                  refine WL_nil ?_
                  refine nrm ?_
                  refine WC_block ?_
                  obtain ⟨J186, ⟨n186, h0⟩, hr186⟩ := h
                  refine WC_loop (fun n ρ w' => ∃ (got_a181 : Option Addr) (got_n182 got_c183 : Nat) (k185 : Int), ρ 16 = .slice got_a181 got_n182 got_c183 ∧ ρ 17 = .int .i64 k185 ∧ ρ 0 = .int .i64 size1 ∧ ρ 2 = .slice lost_a5 lost_n6 lost_c7 ∧ ρ 7 = .pointer p14 ∧ ρ 8 = .pointer u16 ∧ ρ 9 = .slice all_a25 all_n26 all_c27 ∧ ρ 10 = .slice ends_a29 ends_n30 ends_c31 ∧ J186 n (got_a181, got_n182, got_c183, k185) w') ⟨n186, _, _, _, _, rfl, rfl, e0_19, e2_21, e7_22, e8_23, e9_24, e10_28, h0⟩ ?_
                  rintro n186 ρ w186 ⟨got_a181, got_n182, got_c183, k185, e16_180, e17_184, e0_174, e2_175, e7_176, e8_177, e9_178, e10_179, h⟩
                  have h : F3_b5 p14 all_n26 ends_a29 ends_n30 all_a25 size1 lost_a5 lost_n6 lost_c7 u16 got_a181 got_n182 got_c183 k185 w186 k (fun x0 x1 x2 x3 w => ∃ m, m < n186 ∧ J186 m (x0, x1, x2, x3) w) := hr186 n186 (got_a181, got_n182, got_c183, k185) w186 h
                  unfold F3_b5 at h
                  refine WC_seq ?_
                  refine WC_seq ?_
                  refine WC_region ?_
                  refine WL_val gd0 ((o_move (v := .int .i64 k185) (by exact e17_184)) _) rfl ?_
                  refine WL_val gd0 ((o_lss rfl rfl) _) rfl ?_
                  refine WL_nil ?_
                  refine nrm ?_
                  refine WC_cond (t := (decide (k185 < 400))) rfl (fun hb188 => ?_) (fun hb188 => ?_)
                  · rw [if_pos (of_decide_eq_true hb188)] at h
                    refine WC_skip ?_
                    refine nrm ?_
                    refine WC_seq ?_
                    refine WC_block ?_
                    refine WC_seq ?_
                    refine WC_region ?_
                    refine WL_val gd0 ((o_move (v := .pointer p14) (by exact e7_176)) _) rfl ?_
                    refine WL_call gd0 (o_call Try.call8 (argCons rfl argNil) _) rfl (h.mono ?_)
                    rintro _ w189 ⟨r_a190, r_n191, r_c192, r193, r194, rfl, h⟩
                    refine WL_val gd0 ((o_move (v := .tuple #[.slice r_a190 r_n191 r_c192, .int .i64 r193, .bool r194]) rfl) _) rfl ?_
                    refine WL_val gd0 ((o_extract (vs := [.slice r_a190 r_n191 r_c192, .int .i64 r193, .bool r194]) (r := .slice r_a190 r_n191 r_c192) rfl rfl) _) rfl ?_
                    refine WL_val gd0 ((o_extract (vs := [.slice r_a190 r_n191 r_c192, .int .i64 r193, .bool r194]) (r := .int .i64 r193) rfl rfl) _) rfl ?_
                    refine WL_val gd0 ((o_extract (vs := [.slice r_a190 r_n191 r_c192, .int .i64 r193, .bool r194]) (r := .bool r194) rfl rfl) _) rfl ?_
                    refine WL_val gd0 ((o_assign (v := .slice r_a190 r_n191 r_c192) rfl) _) rfl ?_
                    refine WL_val gd0 ((o_assign (v := .int .i64 r193) rfl) _) rfl ?_
                    refine WL_val gd0 ((o_assign (v := .bool r194) rfl) _) rfl ?_
                    refine WL_nil ?_
                    refine nrm ?_
                    refine WC_seq ?_
                    refine WC_seq ?_
                    refine WC_region ?_
                    refine WL_val gd0 ((o_move (v := .bool r194) rfl) _) rfl ?_
                    refine WL_val gd0 ((o_not rfl) _) rfl ?_
                    refine WL_nil ?_
                    refine nrm ?_
                    refine WC_cond (t := (!r194)) rfl (fun hb195 => ?_) (fun hb195 => ?_)
                    · rw [if_pos hb195] at h
                      refine WC_exit ?_
                      refine exT ?_
                      refine exO rfl ?_
                      refine exT ?_
                      refine exT ?_
                      refine exB ?_
                      refine nrm ?_
                      exact ⟨_, _, _, e16_180, e0_174, e2_175, e7_176, e9_178, e10_179, h⟩
                    · rw [if_neg (neT hb195)] at h
                      refine WC_skip ?_
                      refine nrm ?_
                      refine WC_seq ?_
                      refine WC_seq ?_
                      refine WC_region ?_
                      refine WL_val gd0 ((o_move (v := .slice r_a190 r_n191 r_c192) rfl) _) rfl ?_
                      refine WL_val gd0 ((o_len Try.underlying29 rfl) _) rfl ?_
                      refine WL_val gd0 ((o_move (v := .int .i64 size1) (by exact e0_174)) _) rfl ?_
                      refine WL_val gd0 ((o_neq rfl rfl) _) rfl ?_
                      refine WL_nil ?_
                      refine nrm ?_
                      refine WC_cond (t := (decide ((r_n191 : Int) ≠ size1))) rfl (fun hb196 => ?_) (fun hb196 => ?_)
                      · rw [if_pos (of_decide_eq_true hb196)] at h
                        refine WC_seq ?_
                        refine WC_region ?_
                        refine WL_val gd0 ((o_assign (v := .bool false) rfl) _) rfl ?_
                        refine WL_nil ?_
                        refine nrm ?_
                        refine WC_ret ?_
                        refine rtT ?_
                        refine rtB ?_
                        refine rtT ?_
                        refine rtT ?_
                        refine rtB ?_
                        refine rtT ?_
                        refine rtE ?_
                        exact gv1 rfl rfl h
                      · rw [if_neg (of_decide_eq_false hb196)] at h
                        refine WC_skip ?_
                        refine nrm ?_
                        refine WC_seq ?_
                        refine WC_region ?_
                        refine WL_val gd0 ((o_move (v := .slice lost_a5 lost_n6 lost_c7) (by exact e2_175)) _) rfl ?_
                        refine WL_val gd0 ((o_move (v := .int .i64 k185) (by exact e17_184)) _) rfl ?_
                        refine WL_call gd0 (o_call Try.call9 (argCons rfl (argCons rfl argNil)) _) rfl (h.mono ?_)
                        rintro _ w197 ⟨x198, rfl, h⟩
                        refine WL_val gd0 ((o_not rfl) _) rfl ?_
                        refine WL_nil ?_
                        refine nrm ?_
                        refine WC_cond (t := (!x198)) rfl (fun hb199 => ?_) (fun hb199 => ?_)
                        · rw [if_pos hb199] at h
                          refine WC_region ?_
                          refine WL_val gd0 ((o_move (v := .slice got_a181 got_n182 got_c183) (by exact e16_180)) _) rfl ?_
                          refine WL_val gd0 ((o_move (v := .pointer u16) (by exact e8_177)) _) rfl ?_
                          refine WL_val gd0 ((o_move (v := .int .i64 k185) (by exact e17_184)) _) rfl ?_
                          refine WL_val gd0 ((fun w => o_rem rfl rfl w (by decide)) _) rfl ?_
                          refine WL_val gd0 ((o_move (v := .int .i64 r193) rfl) _) rfl ?_
                          refine WL_val gd0 ((o_move (v := .slice r_a190 r_n191 r_c192) rfl) _) rfl ?_
                          refine WL_call gd0 (o_call Try.call10 (argCons rfl (argCons rfl (argCons rfl (argCons rfl argNil)))) _) rfl (h.mono ?_)
                          rintro _ w200 ⟨x_a201, x_n202, x_c203, rfl, h⟩
                          obtain ⟨b_a204, b_n205, b_c206, w207, r208, h⟩ := h
                          refine WL_val gd0 (o_append rfl rfl r208) rfl ?_
                          refine WL_val gd0 ((o_assign (v := .slice b_a204 b_n205 b_c206) rfl) _) rfl ?_
                          refine WL_nil ?_
                          refine nrmB ?_
                          refine nrm ?_
                          refine WC_region ?_
                          refine WL_val gd0 ((o_move (v := .int .i64 k185) (by exact e17_184)) _) rfl ?_
                          refine WL_val gd0 ((o_add rfl rfl) _) rfl ?_
                          refine WL_val gd0 ((o_assign (v := .int .i64 (IntKind.i64.wrap (k185 + 1))) rfl) _) rfl ?_
                          refine WL_nil ?_
                          refine nrm ?_
                          obtain ⟨m187, hm187, h⟩ := h
                          exact ⟨m187, hm187, _, _, _, _, rfl, rfl, e0_174, e2_175, e7_176, e8_177, e9_178, e10_179, h⟩
                        · rw [if_neg (neT hb199)] at h
                          refine WC_skip ?_
                          refine nrmB ?_
                          refine nrm ?_
                          refine WC_region ?_
                          refine WL_val gd0 ((o_move (v := .int .i64 k185) (by exact e17_184)) _) rfl ?_
                          refine WL_val gd0 ((o_add rfl rfl) _) rfl ?_
                          refine WL_val gd0 ((o_assign (v := .int .i64 (IntKind.i64.wrap (k185 + 1))) rfl) _) rfl ?_
                          refine WL_nil ?_
                          refine nrm ?_
                          obtain ⟨m187, hm187, h⟩ := h
                          exact ⟨m187, hm187, _, _, _, _, e16_180, rfl, e0_174, e2_175, e7_176, e8_177, e9_178, e10_179, h⟩
                  · rw [if_neg (of_decide_eq_false hb188)] at h
                    refine WC_exit ?_
                    refine exT ?_
                    refine exT ?_
                    refine exB ?_
                    refine nrm ?_
                    exact ⟨_, _, _, e16_180, e0_174, e2_175, e7_176, e9_178, e10_179, h⟩
                · rintro ρ w98 ⟨got_a95, got_n96, got_c97, e16_94, e0_89, e2_90, e7_91, e9_92, e10_93, h⟩
                  unfold F3_j2 at h
                  refine WC_seq ?_
                  refine WC_region ?_
                  refine WL_val gd0 ((o_assign (v := .int .i64 0) rfl) _) rfl ?_
                  refine WL_nil ?_
                  refine nrm ?_
                  refine WC_seq ?_
                  refine WC_seq ?_
                  refine WC_region ?_
                  refine WL_val gd0 ((o_assign (v := .int .i64 0) rfl) _) rfl ?_
                  refine WL_nil ?_
                  refine nrm ?_
                  refine WC_block ?_
                  obtain ⟨J109, ⟨n109, h0⟩, hr109⟩ := h
                  refine WC_loop (fun n ρ w' => ∃ (n106 i108 : Int), ρ 21 = .int .i64 n106 ∧ ρ 22 = .int .i64 i108 ∧ ρ 0 = .int .i64 size1 ∧ ρ 2 = .slice lost_a5 lost_n6 lost_c7 ∧ ρ 7 = .pointer p14 ∧ ρ 9 = .slice all_a25 all_n26 all_c27 ∧ ρ 10 = .slice ends_a29 ends_n30 ends_c31 ∧ ρ 16 = .slice got_a95 got_n96 got_c97 ∧ J109 n (n106, i108) w') ⟨n109, _, _, rfl, rfl, e0_89, e2_90, e7_91, e9_92, e10_93, e16_94, h0⟩ ?_
                  rintro n109 ρ w109 ⟨n106, i108, e21_105, e22_107, e0_99, e2_100, e7_101, e9_102, e10_103, e16_104, h⟩
                  have h : F3_b3 all_n26 ends_a29 ends_n30 all_a25 size1 lost_a5 lost_n6 lost_c7 got_n96 got_a95 p14 n106 i108 w109 k (fun x0 x1 w => ∃ m, m < n109 ∧ J109 m (x0, x1) w) := hr109 n109 (n106, i108) w109 h
                  unfold F3_b3 at h
                  refine WC_seq ?_
                  refine WC_seq ?_
                  refine WC_region ?_
                  refine WL_val gd0 ((o_move (v := .int .i64 i108) (by exact e22_107)) _) rfl ?_
                  refine WL_val gd0 ((o_move (v := .slice all_a25 all_n26 all_c27) (by exact e9_102)) _) rfl ?_
                  refine WL_val gd0 ((o_len Try.underlying28 rfl) _) rfl ?_
                  refine WL_val gd0 ((o_lss rfl rfl) _) rfl ?_
                  refine WL_nil ?_
                  refine nrm ?_
                  refine WC_cond (t := (decide (i108 < (all_n26 : Int)))) rfl (fun hb111 => ?_) (fun hb111 => ?_)
                  · rw [if_pos (of_decide_eq_true hb111)] at h
                    refine WC_skip ?_
                    refine nrm ?_
                    refine WC_seq ?_
                    refine WC_block ?_
                    refine WC_seq ?_
                    refine WC_region ?_
                    refine WL_val gd0 ((o_assign (v := .bool true) rfl) _) rfl ?_
                    refine WL_nil ?_
                    refine nrm ?_
                    refine WC_seq ?_
                    refine WC_seq ?_
                    refine WC_draws [] (.look 0 (.look 1 (.look 2 (.look 3 (.look 4 (.look 5 (.look 6 (.look 7 (.look 8 (.look 9 (.look 10 (.look 11 (.look 12 .nil))))))))))))) Try.mixed (by kernel_rfl) ?_
                    refine WQ_val rfl gd0 (o_move (v := .slice ends_a29 ends_n30 ends_c31) (by exact e10_103)) rfl ?_
                    refine WQ_val rfl gd0 (o_move (v := .int .i64 i108) (by exact e22_107)) rfl ?_
                    obtain ⟨p114, q115, h⟩ := h
                    obtain ⟨l112, u113, h⟩ := h
                    refine WQ_val rfl gd0 (o_indexAddr1 Try.underlying22 Try.sizeOf3 (by exact (congrArg (fun z => Value.slice z ends_n30 ends_c31) q115)) rfl l112 u113) rfl ?_
                    obtain ⟨x116, hc117, h⟩ := h
                    refine WQ_look (fun w => w.cell? (p114.add i108.toNat) = some (.int .i64 x116)) rfl gd0 (fun w hc => (o_load Try.isAgg3 rfl hc)) hc117 rfl ?_
                    refine WQ_val rfl gd0 (o_move (v := .slice all_a25 all_n26 all_c27) (by exact e9_102)) rfl ?_
                    refine WQ_val rfl gd0 (o_move (v := .int .i64 i108) (by exact e22_107)) rfl ?_
                    obtain ⟨p120, q121, h⟩ := h
                    obtain ⟨l118, u119, h⟩ := h
                    refine WQ_val rfl gd0 (o_indexAddr1 Try.underlying28 Try.sizeOf29 (by exact (congrArg (fun z => Value.slice z all_n26 all_c27) q121)) rfl l118 u119) rfl ?_
                    obtain ⟨x_a122, x_n123, x_c124, hc125, h⟩ := h
                    refine WQ_look (fun w => w.cell? (p120.add i108.toNat) = some (.slice x_a122 x_n123 x_c124)) rfl gd0 (fun w hc => (o_load Try.isAgg29 rfl hc)) hc125 rfl ?_
                    refine WQ_val rfl gd0 (o_len Try.underlying29 rfl) rfl ?_
                    refine WQ_val rfl gd0 (o_sub rfl rfl) rfl ?_
                    refine WQ_val rfl gd0 (o_move (v := .int .i64 size1) (by exact e0_99)) rfl ?_
                    obtain ⟨c126, h⟩ := h
                    refine WQ_val rfl gd0 (fun w => o_quo rfl rfl w c126) rfl ?_
                    refine WQ_val rfl gd0 (o_assign (v := .int .i64 (IntKind.i64.wrap (Int.tdiv (IntKind.i64.wrap (x116 - (x_n123 : Int))) size1))) rfl) rfl ?_
                    refine WQ_nil ?_
                    refine nrm ?_
                    refine WC_block ?_
                    obtain ⟨J139, ⟨n139, h0⟩, hr139⟩ := h
                    refine WC_loop (fun n ρ w' => ∃ (whole136 : Bool) (k138 : Int), ρ 23 = .bool whole136 ∧ ρ 24 = .int .i64 k138 ∧ ρ 0 = .int .i64 size1 ∧ ρ 2 = .slice lost_a5 lost_n6 lost_c7 ∧ ρ 7 = .pointer p14 ∧ ρ 9 = .slice all_a25 all_n26 all_c27 ∧ ρ 10 = .slice ends_a29 ends_n30 ends_c31 ∧ ρ 16 = .slice got_a95 got_n96 got_c97 ∧ ρ 21 = .int .i64 n106 ∧ ρ 22 = .int .i64 i108 ∧ J139 n (whole136, k138) w') ⟨n139, _, _, rfl, rfl, e0_99, e2_100, e7_101, e9_102, e10_103, e16_104, e21_105, e22_107, h0⟩ ?_
                    rintro n139 ρ w139 ⟨whole136, k138, e23_135, e24_137, e0_127, e2_128, e7_129, e9_130, e10_131, e16_132, e21_133, e22_134, h⟩
                    have h : F3_b4 i108 ends_n30 p114 size1 lost_a5 lost_n6 lost_c7 got_n96 n106 got_a95 all_n26 p120 whole136 k138 w139 (fun x0 x1 w => ∃ m, m < n139 ∧ J139 m (x0, x1) w) k (fun x0 x1 w => ∃ m, m < n109 ∧ J109 m (x0, x1) w) := hr139 n139 (whole136, k138) w139 h
                    unfold F3_b4 at h
                    refine WC_seq ?_
                    refine WC_seq ?_
                    refine WC_region ?_
                    refine WL_val gd0 ((o_move (v := .int .i64 k138) (by exact e24_137)) _) rfl ?_
                    refine WL_val gd0 ((o_move (v := .slice ends_a29 ends_n30 ends_c31) (by exact e10_131)) _) rfl ?_
                    refine WL_val gd0 ((o_move (v := .int .i64 i108) (by exact e22_134)) _) rfl ?_
                    obtain ⟨l141, u142, h⟩ := h
                    refine WL_val gd0 ((o_indexAddr1 Try.underlying22 Try.sizeOf3 (by exact (congrArg (fun z => Value.slice z ends_n30 ends_c31) q115)) rfl l141 u142) _) rfl ?_
                    obtain ⟨x143, hc144, h⟩ := h
                    refine WL_val gd0 (o_load Try.isAgg3 rfl hc144) rfl ?_
                    refine WL_val gd0 ((o_sub rfl rfl) _) rfl ?_
                    refine WL_val gd0 ((o_move (v := .int .i64 size1) (by exact e0_127)) _) rfl ?_
                    obtain ⟨c145, h⟩ := h
                    refine WL_val gd0 ((fun w => o_quo rfl rfl w c145) _) rfl ?_
                    refine WL_val gd0 ((o_leq rfl rfl) _) rfl ?_
                    refine WL_nil ?_
                    refine nrm ?_
                    refine WC_cond (t := (decide (k138 ≤ (IntKind.i64.wrap (Int.tdiv (IntKind.i64.wrap (x143 - 1)) size1))))) rfl (fun hb146 => ?_) (fun hb146 => ?_)
                    · rw [if_pos (of_decide_eq_true hb146)] at h
                      refine WC_skip ?_
                      refine nrm ?_
                      refine WC_seq ?_
                      refine WC_block ?_
                      refine WC_region ?_
                      refine WL_val gd0 ((o_move (v := .bool whole136) (by exact e23_135)) _) rfl ?_
                      refine WL_val gd0 ((o_move (v := .bool whole136) rfl) _) rfl ?_
                      refine bsplit whole136 (fun hb147 => ?_) (fun hb147 => ?_)
                      · rw [if_pos hb147] at h
                        refine WL_val (gdY (b := whole136) 162 rfl rfl hb147) ((o_move (v := .slice lost_a5 lost_n6 lost_c7) (by exact e2_128)) _) rfl ?_
                        refine WL_val (gdY (b := whole136) 162 rfl rfl hb147) ((o_move (v := .int .i64 k138) (by exact e24_137)) _) rfl ?_
                        refine WL_call (gdY (b := whole136) 162 rfl rfl hb147) (o_call Try.call9 (argCons rfl (argCons rfl argNil)) _) rfl (h.mono ?_)
                        rintro _ w148 ⟨x149, rfl, h⟩
                        refine WL_val (gdY (b := whole136) 162 rfl rfl hb147) ((o_not rfl) _) rfl ?_
                        refine WL_val gd0 ((o_pickT (v := .bool (!x149)) rfl hb147 rfl) _) rfl ?_
                        refine WL_val gd0 ((o_assign (v := .bool (!x149)) rfl) _) rfl ?_
                        refine WL_nil ?_
                        refine nrmB ?_
                        refine nrm ?_
                        refine WC_region ?_
                        refine WL_val gd0 ((o_move (v := .int .i64 k138) (by exact e24_137)) _) rfl ?_
                        refine WL_val gd0 ((o_add rfl rfl) _) rfl ?_
                        refine WL_val gd0 ((o_assign (v := .int .i64 (IntKind.i64.wrap (k138 + 1))) rfl) _) rfl ?_
                        refine WL_nil ?_
                        refine nrm ?_
                        obtain ⟨m140, hm140, h⟩ := h
                        exact ⟨m140, hm140, _, _, rfl, rfl, e0_127, e2_128, e7_129, e9_130, e10_131, e16_132, e21_133, e22_134, h⟩
                      · rw [if_neg (neT hb147)] at h
                        refine WL_skip (gdN (b := whole136) 162 rfl rfl hb147) rfl ?_
                        refine WL_skip (gdN (b := whole136) 162 rfl rfl hb147) rfl ?_
                        refine WL_skip (gdN (b := whole136) 162 rfl rfl hb147) rfl ?_
                        refine WL_skip (gdN (b := whole136) 162 rfl rfl hb147) rfl ?_
                        refine WL_val gd0 ((o_pickF (v := .bool false) rfl hb147 rfl) _) rfl ?_
                        refine WL_val gd0 ((o_assign (v := .bool false) rfl) _) rfl ?_
                        refine WL_nil ?_
                        refine nrmB ?_
                        refine nrm ?_
                        refine WC_region ?_
                        refine WL_val gd0 ((o_move (v := .int .i64 k138) (by exact e24_137)) _) rfl ?_
                        refine WL_val gd0 ((o_add rfl rfl) _) rfl ?_
                        refine WL_val gd0 ((o_assign (v := .int .i64 (IntKind.i64.wrap (k138 + 1))) rfl) _) rfl ?_
                        refine WL_nil ?_
                        refine nrm ?_
                        obtain ⟨m140, hm140, h⟩ := h
                        exact ⟨m140, hm140, _, _, rfl, rfl, e0_127, e2_128, e7_129, e9_130, e10_131, e16_132, e21_133, e22_134, h⟩
                    · rw [if_neg (of_decide_eq_false hb146)] at h
                      refine WC_exit ?_
                      refine exT ?_
                      refine exT ?_
                      refine exB ?_
                      refine nrm ?_
                      refine WC_seq ?_
                      refine WC_region ?_
                      refine WL_val gd0 ((o_move (v := .bool whole136) (by exact e23_135)) _) rfl ?_
                      refine WL_nil ?_
                      refine nrm ?_
                      refine WC_cond (t := whole136) rfl (fun hb150 => ?_) (fun hb150 => ?_)
                      · rw [if_pos hb150] at h
                        refine WC_seq ?_
                        refine WC_seq ?_
                        refine WC_draws [] (.look 0 (.look 1 (.look 2 (.look 3 (.look 4 (.look 5 (.look 6 (.look 7 (.look 8 (.look 9 (.look 10 (.look 11 (.look 12 (.look 13 (.look 14 (.look 15 (.look 16 .nil))))))))))))))))) Try.mixed (by kernel_rfl) ?_
                        refine WQ_val rfl gd0 (o_move (v := .int .i64 n106) (by exact e21_133)) rfl ?_
                        refine WQ_val rfl gd0 (o_move (v := .slice got_a95 got_n96 got_c97) (by exact e16_132)) rfl ?_
                        refine WQ_val rfl gd0 (o_len Try.underlying28 rfl) rfl ?_
                        refine WQ_val rfl gd0 (o_geq rfl rfl) rfl ?_
                        refine WQ_val rfl gd0 (o_move (v := .bool (decide ((got_n96 : Int) ≤ n106))) rfl) rfl ?_
                        refine bsplit (decide ((got_n96 : Int) ≤ n106)) (fun hb151 => ?_) (fun hb151 => ?_)
                        · rw [if_pos (of_decide_eq_true hb151)] at h
                          refine WQ_skip rfl (gdN (b := (decide ((got_n96 : Int) ≤ n106))) 173 rfl rfl hb151) rfl ?_
                          refine WQ_skip rfl (gdN (b := (decide ((got_n96 : Int) ≤ n106))) 173 rfl rfl hb151) rfl ?_
                          refine WQ_skip rfl (gdN (b := (decide ((got_n96 : Int) ≤ n106))) 173 rfl rfl hb151) rfl ?_
                          refine WQ_skip rfl (gdN (b := (decide ((got_n96 : Int) ≤ n106))) 173 rfl rfl hb151) rfl ?_
                          refine WQ_skip rfl (gdN (b := (decide ((got_n96 : Int) ≤ n106))) 173 rfl rfl hb151) rfl ?_
                          refine WQ_skip rfl (gdN (b := (decide ((got_n96 : Int) ≤ n106))) 173 rfl rfl hb151) rfl ?_
                          refine WQ_skip rfl (gdN (b := (decide ((got_n96 : Int) ≤ n106))) 173 rfl rfl hb151) rfl ?_
                          refine WQ_skip rfl (gdN (b := (decide ((got_n96 : Int) ≤ n106))) 173 rfl rfl hb151) rfl ?_
                          refine WQ_skip rfl (gdN (b := (decide ((got_n96 : Int) ≤ n106))) 173 rfl rfl hb151) rfl ?_
                          refine WQ_skip rfl (gdN (b := (decide ((got_n96 : Int) ≤ n106))) 173 rfl rfl hb151) rfl ?_
                          refine WQ_skip rfl (gdN (b := (decide ((got_n96 : Int) ≤ n106))) 173 rfl rfl hb151) rfl ?_
                          refine WQ_val rfl gd0 (o_pickT (v := .bool true) rfl hb151 rfl) rfl ?_
                          refine WQ_nil ?_
                          refine nrm ?_
                          refine WC_cond (t := true) rfl (fun _ => ?_) (fun hx => by rw [(rfl : true = true)] at hx; cases hx)
                          refine WC_seq ?_
                          refine WC_region ?_
                          refine WL_val gd0 ((o_assign (v := .bool false) rfl) _) rfl ?_
                          refine WL_nil ?_
                          refine nrm ?_
                          refine WC_ret ?_
                          refine rtT ?_
                          refine rtB ?_
                          refine rtT ?_
                          refine rtT ?_
                          refine rtB ?_
                          refine rtT ?_
                          refine rtE ?_
                          exact gv1 rfl rfl h
                        · rw [if_neg (of_decide_eq_false hb151)] at h
                          refine WQ_val rfl (gdY (b := (decide ((got_n96 : Int) ≤ n106))) 173 rfl rfl hb151) (o_move (v := .slice got_a95 got_n96 got_c97) (by exact e16_132)) rfl ?_
                          refine WQ_val rfl (gdY (b := (decide ((got_n96 : Int) ≤ n106))) 173 rfl rfl hb151) (o_move (v := .int .i64 n106) (by exact e21_133)) rfl ?_
                          obtain ⟨p154, q155, h⟩ := h
                          obtain ⟨l152, u153, h⟩ := h
                          refine WQ_val rfl (gdY (b := (decide ((got_n96 : Int) ≤ n106))) 173 rfl rfl hb151) (o_indexAddr1 Try.underlying28 Try.sizeOf29 (by exact (congrArg (fun z => Value.slice z got_n96 got_c97) q155)) rfl l152 u153) rfl ?_
                          obtain ⟨x_a156, x_n157, x_c158, hc159, h⟩ := h
                          refine WQ_look (fun w => w.cell? (p154.add n106.toNat) = some (.slice x_a156 x_n157 x_c158)) rfl (gdY (b := (decide ((got_n96 : Int) ≤ n106))) 173 rfl rfl hb151) (fun w hc => (o_load Try.isAgg29 rfl hc)) hc159 rfl ?_
                          obtain ⟨s160, r161, h⟩ := h
                          refine WQ_look (fun w => (Conv.bytesToString (.slice x_a156 x_n157 x_c158)).run Try.prog w = .ok (.string s160) w) rfl (gdY (b := (decide ((got_n96 : Int) ≤ n106))) 173 rfl rfl hb151) (fun w hc => (o_toStr Try.underlying29 Try.underlying5 Try.underlying9 rfl hc)) r161 rfl ?_
                          refine WQ_val rfl (gdY (b := (decide ((got_n96 : Int) ≤ n106))) 173 rfl rfl hb151) (o_move (v := .slice all_a25 all_n26 all_c27) (by exact e9_130)) rfl ?_
                          refine WQ_val rfl (gdY (b := (decide ((got_n96 : Int) ≤ n106))) 173 rfl rfl hb151) (o_move (v := .int .i64 i108) (by exact e22_134)) rfl ?_
                          obtain ⟨l162, u163, h⟩ := h
                          refine WQ_val rfl (gdY (b := (decide ((got_n96 : Int) ≤ n106))) 173 rfl rfl hb151) (o_indexAddr1 Try.underlying28 Try.sizeOf29 (by exact (congrArg (fun z => Value.slice z all_n26 all_c27) q121)) rfl l162 u163) rfl ?_
                          obtain ⟨x_a164, x_n165, x_c166, hc167, h⟩ := h
                          refine WQ_look (fun w => w.cell? (p120.add i108.toNat) = some (.slice x_a164 x_n165 x_c166)) rfl (gdY (b := (decide ((got_n96 : Int) ≤ n106))) 173 rfl rfl hb151) (fun w hc => (o_load Try.isAgg29 rfl hc)) hc167 rfl ?_
                          obtain ⟨s168, r169, h⟩ := h
                          refine WQ_look (fun w => (Conv.bytesToString (.slice x_a164 x_n165 x_c166)).run Try.prog w = .ok (.string s168) w) rfl (gdY (b := (decide ((got_n96 : Int) ≤ n106))) 173 rfl rfl hb151) (fun w hc => (o_toStr Try.underlying29 Try.underlying5 Try.underlying9 rfl hc)) r169 rfl ?_
                          refine WQ_val rfl (gdY (b := (decide ((got_n96 : Int) ≤ n106))) 173 rfl rfl hb151) (o_neqStr rfl rfl) rfl ?_
                          refine WQ_val rfl gd0 (o_pickF (v := .bool (!(s160.toList == s168.toList))) rfl hb151 rfl) rfl ?_
                          refine WQ_nil ?_
                          refine nrm ?_
                          refine WC_cond (t := (!(s160.toList == s168.toList))) rfl (fun hb170 => ?_) (fun hb170 => ?_)
                          · rw [if_pos hb170] at h
                            refine WC_seq ?_
                            refine WC_region ?_
                            refine WL_val gd0 ((o_assign (v := .bool false) rfl) _) rfl ?_
                            refine WL_nil ?_
                            refine nrm ?_
                            refine WC_ret ?_
                            refine rtT ?_
                            refine rtB ?_
                            refine rtT ?_
                            refine rtT ?_
                            refine rtB ?_
                            refine rtT ?_
                            refine rtE ?_
                            exact gv1 rfl rfl h
                          · rw [if_neg (neT hb170)] at h
                            refine WC_skip ?_
                            refine nrm ?_
                            refine WC_region ?_
                            refine WL_val gd0 ((o_move (v := .int .i64 n106) (by exact e21_133)) _) rfl ?_
                            refine WL_val gd0 ((o_add rfl rfl) _) rfl ?_
                            refine WL_val gd0 ((o_assign (v := .int .i64 (IntKind.i64.wrap (n106 + 1))) rfl) _) rfl ?_
                            refine WL_nil ?_
                            refine nrmB ?_
                            refine nrm ?_
                            refine WC_region ?_
                            refine WL_val gd0 ((o_move (v := .int .i64 i108) (by exact e22_134)) _) rfl ?_
                            refine WL_val gd0 ((o_add rfl rfl) _) rfl ?_
                            refine WL_val gd0 ((o_assign (v := .int .i64 (IntKind.i64.wrap (i108 + 1))) rfl) _) rfl ?_
                            refine WL_nil ?_
                            refine nrm ?_
                            obtain ⟨m110, hm110, h⟩ := h
                            exact ⟨m110, hm110, _, _, rfl, rfl, e0_127, e2_128, e7_129, e9_130, e10_131, e16_132, h⟩
                      · rw [if_neg (neT hb150)] at h
                        refine WC_skip ?_
                        refine nrmB ?_
                        refine nrm ?_
                        refine WC_region ?_
                        refine WL_val gd0 ((o_move (v := .int .i64 i108) (by exact e22_134)) _) rfl ?_
                        refine WL_val gd0 ((o_add rfl rfl) _) rfl ?_
                        refine WL_val gd0 ((o_assign (v := .int .i64 (IntKind.i64.wrap (i108 + 1))) rfl) _) rfl ?_
                        refine WL_nil ?_
                        refine nrm ?_
                        obtain ⟨m110, hm110, h⟩ := h
                        exact ⟨m110, hm110, _, _, e21_133, rfl, e0_127, e2_128, e7_129, e9_130, e10_131, e16_132, h⟩
                  · rw [if_neg (of_decide_eq_false hb111)] at h
                    refine WC_exit ?_
                    refine exT ?_
                    refine exT ?_
                    refine exB ?_
                    refine nrm ?_
                    refine WC_seq ?_
                    refine WC_region ?_
                    refine WL_val gd0 ((o_move (v := .int .i64 n106) (by exact e21_105)) _) rfl ?_
                    refine WL_val gd0 ((o_move (v := .slice got_a95 got_n96 got_c97) (by exact e16_104)) _) rfl ?_
                    refine WL_val gd0 ((o_len Try.underlying28 rfl) _) rfl ?_
                    refine WL_val gd0 ((o_eql rfl rfl) _) rfl ?_
                    refine WL_val gd0 ((o_move (v := .bool (decide (n106 = (got_n96 : Int)))) rfl) _) rfl ?_
                    refine bsplit (decide (n106 = (got_n96 : Int))) (fun hb171 => ?_) (fun hb171 => ?_)
                    · rw [if_pos (of_decide_eq_true hb171)] at h
                      refine WL_val (gdY (b := (decide (n106 = (got_n96 : Int)))) 192 rfl rfl hb171) ((o_move (v := .pointer p14) (by exact e7_101)) _) rfl ?_
                      refine WL_call (gdY (b := (decide (n106 = (got_n96 : Int)))) 192 rfl rfl hb171) (o_call Try.call11 (argCons rfl argNil) _) rfl (h.mono ?_)
                      rintro _ w172 ⟨x173, rfl, h⟩
                      refine WL_val (gdY (b := (decide (n106 = (got_n96 : Int)))) 192 rfl rfl hb171) ((o_eql rfl rfl) _) rfl ?_
                      refine WL_val gd0 ((o_pickT (v := .bool (decide (x173 = 0))) rfl hb171 rfl) _) rfl ?_
                      refine WL_val gd0 ((o_assign (v := .bool (decide (x173 = 0))) rfl) _) rfl ?_
                      refine WL_nil ?_
                      refine nrm ?_
                      refine WC_ret ?_
                      refine rtE ?_
                      exact gv1 rfl rfl h
                    · rw [if_neg (of_decide_eq_false hb171)] at h
                      refine WL_skip (gdN (b := (decide (n106 = (got_n96 : Int)))) 192 rfl rfl hb171) rfl ?_
                      refine WL_skip (gdN (b := (decide (n106 = (got_n96 : Int)))) 192 rfl rfl hb171) rfl ?_
                      refine WL_skip (gdN (b := (decide (n106 = (got_n96 : Int)))) 192 rfl rfl hb171) rfl ?_
                      refine WL_val gd0 ((o_pickF (v := .bool false) rfl hb171 rfl) _) rfl ?_
                      refine WL_val gd0 ((o_assign (v := .bool false) rfl) _) rfl ?_
                      refine WL_nil ?_
                      refine nrm ?_
                      refine WC_ret ?_
                      refine rtE ?_
                      exact gv1 rfl rfl h

/-- spacecraft packer.New -/
def F4 (size1 : Int) (room2 : Int) (w3 : World) (k : Value → World → Prop) : Prop :=
  if size1 < 1 then
  k (.pointer none) w3
else
  if 1012 < size1 then
    k (.pointer none) w3
  else
    New w3 43 [.int .i64 size1, .int .i64 (min (max room2 0) 1048576), .int .i64 0, .int .i64 0, .slice none 0 0, .slice none 0 0] (fun p6 w7 => k (.pointer (some p6)) w7)
set_option maxRecDepth 100000 in
set_option maxHeartbeats 2000000 in
theorem w4 (size1 : Int) (room2 : Int) (w3 : World) (k : Value → World → Prop) (h : F4 size1 room2 w3 k) : Does Try.prog 4 #[.int .i64 size1, .int .i64 room2] w3 k := by
  refine enter 17 Try.func4 rfl rfl rfl ?_
  intro ρ hρ
  have e0 := hρ 0 _ rfl
  have e1 := hρ 1 _ rfl
  unfold F4 at h
  refine WC_seq ?_
  refine WC_region ?_
  refine WL_val gd0 ((o_assign (v := .pointer none) rfl) _) rfl ?_
  refine WL_nil ?_
  refine nrm ?_
  refine WC_seq ?_
  refine WC_seq ?_
  refine WC_region ?_
  refine WL_val gd0 ((o_move (v := .int .i64 size1) (by exact e0)) _) rfl ?_
  refine WL_val gd0 ((o_lss rfl rfl) _) rfl ?_
  refine WL_val gd0 ((o_move (v := .bool (decide (size1 < 1))) rfl) _) rfl ?_
  refine bsplit (decide (size1 < 1)) (fun hb4 => ?_) (fun hb4 => ?_)
  · rw [if_pos (of_decide_eq_true hb4)] at h
    refine WL_skip (gdN (b := (decide (size1 < 1))) 7 rfl rfl hb4) rfl ?_
    refine WL_skip (gdN (b := (decide (size1 < 1))) 7 rfl rfl hb4) rfl ?_
    refine WL_val gd0 ((o_pickT (v := .bool true) rfl hb4 rfl) _) rfl ?_
    refine WL_nil ?_
    refine nrm ?_
    refine WC_cond (t := true) rfl (fun _ => ?_) (fun hx => by rw [(rfl : true = true)] at hx; cases hx)
    refine WC_seq ?_
    refine WC_region ?_
    refine WL_val gd0 ((o_assign (v := .pointer none) rfl) _) rfl ?_
    refine WL_nil ?_
    refine nrm ?_
    refine WC_ret ?_
    refine rtT ?_
    refine rtE ?_
    exact gv1 rfl rfl h
  · rw [if_neg (of_decide_eq_false hb4)] at h
    refine WL_val (gdY (b := (decide (size1 < 1))) 7 rfl rfl hb4) ((o_move (v := .int .i64 size1) (by exact e0)) _) rfl ?_
    refine WL_val (gdY (b := (decide (size1 < 1))) 7 rfl rfl hb4) ((o_gtr rfl rfl) _) rfl ?_
    refine WL_val gd0 ((o_pickF (v := .bool (decide (1012 < size1))) rfl hb4 rfl) _) rfl ?_
    refine WL_nil ?_
    refine nrm ?_
    refine WC_cond (t := (decide (1012 < size1))) rfl (fun hb5 => ?_) (fun hb5 => ?_)
    · rw [if_pos (of_decide_eq_true hb5)] at h
      refine WC_seq ?_
      refine WC_region ?_
      refine WL_val gd0 ((o_assign (v := .pointer none) rfl) _) rfl ?_
      refine WL_nil ?_
      refine nrm ?_
      refine WC_ret ?_
      refine rtT ?_
      refine rtE ?_
      exact gv1 rfl rfl h
    · rw [if_neg (of_decide_eq_false hb5)] at h
      refine WC_skip ?_
      refine nrm ?_
      refine WC_seq ?_
      refine WC_region ?_
      refine WL_val gd0 ((o_move (v := .int .i64 size1) (by exact e0)) _) rfl ?_
      refine WL_val gd0 ((o_move (v := .int .i64 room2) (by exact e1)) _) rfl ?_
      refine WL_val gd0 ((o_max2 rfl rfl) _) rfl ?_
      refine WL_val gd0 ((o_min2 rfl rfl) _) rfl ?_
      refine WL_val gd0 ((o_build (ps := [(0, .int .i64 size1), (1, .int .i64 (min (max room2 0) 1048576))]) (v := .agg #[.int .i64 size1, .int .i64 (min (max room2 0) 1048576), .int .i64 0, .int .i64 0, .slice none 0 0, .slice none 0 0]) (partCons rfl (partCons rfl partNil)) (fun w => by kernel_rfl)) _) rfl ?_
      have h := New.out h
      refine WL_val gd0 (o_box (v := .agg #[.int .i64 size1, .int .i64 (min (max room2 0) 1048576), .int .i64 0, .int .i64 0, .slice none 0 0, .slice none 0 0]) (cs := [.int .i64 size1, .int .i64 (min (max room2 0) 1048576), .int .i64 0, .int .i64 0, .slice none 0 0, .slice none 0 0]) rfl rfl) rfl ?_
      generalize hp6 : fresh w3 = p6 at h ⊢
      generalize hw7 : push w3 43 [.int .i64 size1, .int .i64 (min (max room2 0) 1048576), .int .i64 0, .int .i64 0, .slice none 0 0, .slice none 0 0] = w7 at h ⊢
      try dsimp only at h
      refine WL_val gd0 ((o_assign (v := .pointer (some p6)) rfl) _) rfl ?_
      refine WL_nil ?_
      refine nrm ?_
      refine WC_ret ?_
      refine rtE ?_
      exact gv1 rfl rfl h

/-- spacecraft unpacker.New -/
def F5 (w1 : World) (k : Value → World → Prop) : Prop :=
  New w1 45 [.bool true, .bool false, .bool false, .int .i64 0, .int .i64 0, .slice none 0 0] (fun p2 w3 => k (.pointer (some p2)) w3)
set_option maxRecDepth 100000 in
set_option maxHeartbeats 2000000 in
theorem w5 (w1 : World) (k : Value → World → Prop) (h : F5 w1 k) : Does Try.prog 5 #[] w1 k := by
  refine enter 3 Try.func5 rfl rfl rfl ?_
  intro ρ hρ
  unfold F5 at h
  refine WC_seq ?_
  refine WC_region ?_
  refine WL_val gd0 ((o_assign (v := .pointer none) rfl) _) rfl ?_
  refine WL_nil ?_
  refine nrm ?_
  refine WC_seq ?_
  refine WC_region ?_
  refine WL_val gd0 ((o_build (ps := [(0, .bool true)]) (v := .agg #[.bool true, .bool false, .bool false, .int .i64 0, .int .i64 0, .slice none 0 0]) (partCons rfl partNil) (fun w => by kernel_rfl)) _) rfl ?_
  have h := New.out h
  refine WL_val gd0 (o_box (v := .agg #[.bool true, .bool false, .bool false, .int .i64 0, .int .i64 0, .slice none 0 0]) (cs := [.bool true, .bool false, .bool false, .int .i64 0, .int .i64 0, .slice none 0 0]) rfl rfl) rfl ?_
  generalize hp2 : fresh w1 = p2 at h ⊢
  generalize hw3 : push w1 45 [.bool true, .bool false, .bool false, .int .i64 0, .int .i64 0, .slice none 0 0] = w3 at h ⊢
  try dsimp only at h
  refine WL_val gd0 ((o_assign (v := .pointer (some p2)) rfl) _) rfl ?_
  refine WL_nil ?_
  refine nrm ?_
  refine WC_ret ?_
  refine rtE ?_
  exact gv1 rfl rfl h

/-- spacecraft packet.Encode -/
def F6 (p1 : Bool) (p2 : Bool) (p3 : Int) (p4 : Int) (p5 : Int) (p_a6 : Option Addr) (p_n7 : Nat) (p_c8 : Nat) (w9 : World) (k : Value → World → Prop) : Prop :=
  New w9 34 [.bool p1, .bool p2, .int .i64 p3, .int .i64 p4, .int .i64 p5, .slice p_a6 p_n7 p_c8] (fun p10 w11 => ∃ (x12 x13 : Bool) (x14 x15 x16 : Int) (x_a17 : Option Addr) (x_n18 x_c19 : Nat), Cells w11 p10 0 [.bool x12, .bool x13, .int .i64 x14, .int .i64 x15, .int .i64 x16, .slice x_a17 x_n18 x_c19] ∧ Does Try.prog 12 #[.agg #[.bool x12, .bool x13, .int .i64 x14, .int .i64 x15, .int .i64 x16, .slice x_a17 x_n18 x_c19]] w11 (fun v w21 => ∃ (x22 : Bool), v = .bool x22 ∧ if (!x22) = true then
  k (.tuple #[.slice none 0 0, .int .i64 1]) w21
else
  ∃ (x24 : Bool), w21.drew.cell? p10 = some (.bool x24) ∧ ∃ (x26 : Bool), w21.drew.cell? (p10.add 1) = some (.bool x26) ∧ ∃ (x28 : Int), w21.drew.cell? (p10.add 2) = some (.int .i64 x28) ∧ Does Try.prog 13 #[.bool x24, .int .i64 4096] w21.drew (fun v w30 => ∃ (x31 : Int), v = .int .i64 x31 ∧ w30.cell? (p10.add 1) = some (.bool x26) ∧ w30.cell? (p10.add 2) = some (.int .i64 x28) ∧ Does Try.prog 13 #[.bool x26, .int .i64 2048] w30 (fun v w34 => ∃ (x35 : Int), v = .int .i64 x35 ∧ w34.cell? (p10.add 2) = some (.int .i64 x28) ∧ ∃ (x37 : Int), w34.cell? (p10.add 3) = some (.int .i64 x37) ∧ ∃ (x39 : Int), w34.cell? (p10.add 4) = some (.int .i64 x39) ∧ ∃ (x_a41 : Option Addr) (x_n42 x_c43 : Nat), w34.cell? (p10.add 5) = some (.slice x_a41 x_n42 x_c43) ∧ New w34 5 [.int .u8 (IntKind.u8.wrap (shr .i64 (bor .i64 (bor .i64 x31 x35) x28) 8)), .int .u8 (IntKind.u8.wrap (bor .i64 (bor .i64 x31 x35) x28)), .int .u8 (IntKind.u8.wrap (shr .i64 (bor .i64 (shl .i64 x37 14) x39) 8)), .int .u8 (IntKind.u8.wrap (bor .i64 (shl .i64 x37 14) x39)), .int .u8 (IntKind.u8.wrap (shr .i64 (IntKind.i64.wrap ((x_n42 : Int) - 1)) 8)), .int .u8 (IntKind.u8.wrap (IntKind.i64.wrap ((x_n42 : Int) - 1)))] (fun p45 w46 => ∃ (x_a47 : Option Addr) (x_n48 x_c49 : Nat), w46.cell? (p10.add 5) = some (.slice x_a47 x_n48 x_c49) ∧ ∃ (b_a51 : Option Addr) (b_n52 b_c53 : Nat) (w54 : World), (Builtin.append_ #[29, 29] 29 #[.slice (some p45) 6 6, .slice x_a47 x_n48 x_c49]).run Try.prog w46 = .ok (.slice b_a51 b_n52 b_c53) w54 ∧ k (.tuple #[.slice b_a51 b_n52 b_c53, .int .i64 0]) w54)))))
set_option maxRecDepth 100000 in
set_option maxHeartbeats 2000000 in
theorem w6 (p1 : Bool) (p2 : Bool) (p3 : Int) (p4 : Int) (p5 : Int) (p_a6 : Option Addr) (p_n7 : Nat) (p_c8 : Nat) (w9 : World) (k : Value → World → Prop) (h : F6 p1 p2 p3 p4 p5 p_a6 p_n7 p_c8 w9 k) : Does Try.prog 6 #[.agg #[.bool p1, .bool p2, .int .i64 p3, .int .i64 p4, .int .i64 p5, .slice p_a6 p_n7 p_c8]] w9 k := by
  refine enter 51 Try.func6 rfl rfl rfl ?_
  intro ρ hρ
  have e0 := hρ 0 _ rfl
  unfold F6 at h
  refine WC_seq ?_
  refine WC_region ?_
  have h := New.out h
  refine WL_val gd0 (o_box (v := .agg #[.bool p1, .bool p2, .int .i64 p3, .int .i64 p4, .int .i64 p5, .slice p_a6 p_n7 p_c8]) (cs := [.bool p1, .bool p2, .int .i64 p3, .int .i64 p4, .int .i64 p5, .slice p_a6 p_n7 p_c8]) (by exact e0) rfl) rfl ?_
  generalize hp10 : fresh w9 = p10 at h ⊢
  generalize hw11 : push w9 34 [.bool p1, .bool p2, .int .i64 p3, .int .i64 p4, .int .i64 p5, .slice p_a6 p_n7 p_c8] = w11 at h ⊢
  try dsimp only at h
  refine WL_val gd0 ((o_assign (v := .slice none 0 0) rfl) _) rfl ?_
  refine WL_val gd0 ((o_assign (v := .int .i64 0) rfl) _) rfl ?_
  refine WL_nil ?_
  refine nrm ?_
  refine WC_seq ?_
  refine WC_seq ?_
  refine WC_region ?_
  obtain ⟨x12, x13, x14, x15, x16, x_a17, x_n18, x_c19, hc20, h⟩ := h
  refine WL_val gd0 (o_loadAgg (vs := [.bool x12, .bool x13, .int .i64 x14, .int .i64 x15, .int .i64 x16, .slice x_a17 x_n18 x_c19]) Try.isAgg34 Try.sizeOf34 rfl hc20) rfl ?_
  refine WL_call gd0 (o_call Try.call12 (argCons rfl argNil) _) rfl (h.mono ?_)
  rintro _ w21 ⟨x22, rfl, h⟩
  refine WL_val gd0 ((o_not rfl) _) rfl ?_
  refine WL_nil ?_
  refine nrm ?_
  refine WC_cond (t := (!x22)) rfl (fun hb23 => ?_) (fun hb23 => ?_)
  · rw [if_pos hb23] at h
    refine WC_seq ?_
    refine WC_region ?_
    refine WL_val gd0 ((o_assign (v := .slice none 0 0) rfl) _) rfl ?_
    refine WL_val gd0 ((o_assign (v := .int .i64 1) rfl) _) rfl ?_
    refine WL_nil ?_
    refine nrm ?_
    refine WC_ret ?_
    refine rtT ?_
    refine rtE ?_
    exact gv2 rfl rfl rfl h
  · rw [if_neg (neT hb23)] at h
    refine WC_skip ?_
    refine nrm ?_
    refine WC_seq ?_
    refine WC_draws [2, 5] (.look 0 (.look 1 (.look 3 (.look 4 (.look 7 (.look 8 (.act 2 (.act 5 (.look 6 (.look 9 (.look 10 .nil))))))))))) Try.mixed (by kernel_rfl) ?_
    refine WQ_val rfl gd0 (o_fieldAddr0 Try.underlying34 rfl Try.sizeOf4 rfl rfl rfl) rfl ?_
    obtain ⟨x24, hc25, h⟩ := h
    refine WQ_look (fun w => w.cell? p10 = some (.bool x24)) rfl gd0 (fun w hc => (o_load Try.isAgg4 rfl hc)) hc25 rfl ?_
    refine WQ_val rfl gd0 (o_fieldAddr 1 Try.underlying34 rfl Try.sizeOf4 rfl rfl rfl) rfl ?_
    obtain ⟨x26, hc27, h⟩ := h
    refine WQ_look (fun w => w.cell? (p10.add 1) = some (.bool x26)) rfl gd0 (fun w hc => (o_load Try.isAgg4 rfl hc)) hc27 rfl ?_
    refine WQ_val rfl gd0 (o_fieldAddr 2 Try.underlying34 rfl Try.sizeOf3 rfl rfl rfl) rfl ?_
    obtain ⟨x28, hc29, h⟩ := h
    refine WQ_look (fun w => w.cell? (p10.add 2) = some (.int .i64 x28)) rfl gd0 (fun w hc => (o_load Try.isAgg3 rfl hc)) hc29 rfl ?_
    refine WQ_call rfl gd0 (o_call Try.call13 (argCons rfl (argCons rfl argNil)) _) rfl (h.mono ?_)
    rintro _ w30 ⟨x31, rfl, hh32, hh33, h⟩
    refine ⟨⟨⟨⟨trivial, depT (by kernel_rfl)⟩, fun _ => hh32⟩, fun _ => hh33⟩, ?_⟩
    refine WQ_call rfl gd0 (o_call Try.call13 (argCons rfl (argCons rfl argNil)) _) rfl (h.mono ?_)
    rintro _ w34 ⟨x35, rfl, hh36, h⟩
    refine ⟨⟨⟨⟨trivial, depT (by kernel_rfl)⟩, depT (by kernel_rfl)⟩, fun _ => hh36⟩, ?_⟩
    refine WQ_val rfl gd0 (o_or rfl rfl) rfl ?_
    refine WQ_val rfl gd0 (o_or rfl rfl) rfl ?_
    refine WQ_val rfl gd0 (o_assign (v := .int .i64 (bor .i64 (bor .i64 x31 x35) x28)) rfl) rfl ?_
    refine WQ_nil ?_
    refine nrm ?_
    refine WC_seq ?_
    refine WC_region ?_
    refine WL_val gd0 ((o_fieldAddr 3 Try.underlying34 rfl Try.sizeOf3 rfl rfl rfl) _) rfl ?_
    obtain ⟨x37, hc38, h⟩ := h
    refine WL_val gd0 (o_load Try.isAgg3 rfl hc38) rfl ?_
    refine WL_val gd0 ((o_shl rfl rfl (by decide)) _) rfl ?_
    refine WL_val gd0 ((o_fieldAddr 4 Try.underlying34 rfl Try.sizeOf3 rfl rfl rfl) _) rfl ?_
    obtain ⟨x39, hc40, h⟩ := h
    refine WL_val gd0 (o_load Try.isAgg3 rfl hc40) rfl ?_
    refine WL_val gd0 ((o_or rfl rfl) _) rfl ?_
    refine WL_val gd0 ((o_assign (v := .int .i64 (bor .i64 (shl .i64 x37 14) x39)) rfl) _) rfl ?_
    refine WL_nil ?_
    refine nrm ?_
    refine WC_seq ?_
    refine WC_region ?_
    refine WL_val gd0 ((o_fieldAddr 5 Try.underlying34 rfl Try.sizeOf29 rfl rfl rfl) _) rfl ?_
    obtain ⟨x_a41, x_n42, x_c43, hc44, h⟩ := h
    refine WL_val gd0 (o_load Try.isAgg29 rfl hc44) rfl ?_
    refine WL_val gd0 ((o_len Try.underlying29 rfl) _) rfl ?_
    refine WL_val gd0 ((o_sub rfl rfl) _) rfl ?_
    refine WL_val gd0 ((o_assign (v := .int .i64 (IntKind.i64.wrap ((x_n42 : Int) - 1))) rfl) _) rfl ?_
    refine WL_nil ?_
    refine nrm ?_
    refine WC_seq ?_
    refine WC_region ?_
    refine WL_val gd0 ((o_move (v := .int .i64 (bor .i64 (bor .i64 x31 x35) x28)) rfl) _) rfl ?_
    refine WL_val gd0 ((o_shr rfl rfl (by decide)) _) rfl ?_
    refine WL_val gd0 ((o_conv Try.underlying3 Try.underlying5 rfl) _) rfl ?_
    refine WL_val gd0 ((o_move (v := .int .i64 (bor .i64 (bor .i64 x31 x35) x28)) rfl) _) rfl ?_
    refine WL_val gd0 ((o_conv Try.underlying3 Try.underlying5 rfl) _) rfl ?_
    refine WL_val gd0 ((o_move (v := .int .i64 (bor .i64 (shl .i64 x37 14) x39)) rfl) _) rfl ?_
    refine WL_val gd0 ((o_shr rfl rfl (by decide)) _) rfl ?_
    refine WL_val gd0 ((o_conv Try.underlying3 Try.underlying5 rfl) _) rfl ?_
    refine WL_val gd0 ((o_move (v := .int .i64 (bor .i64 (shl .i64 x37 14) x39)) rfl) _) rfl ?_
    refine WL_val gd0 ((o_conv Try.underlying3 Try.underlying5 rfl) _) rfl ?_
    refine WL_val gd0 ((o_move (v := .int .i64 (IntKind.i64.wrap ((x_n42 : Int) - 1))) rfl) _) rfl ?_
    refine WL_val gd0 ((o_shr rfl rfl (by decide)) _) rfl ?_
    refine WL_val gd0 ((o_conv Try.underlying3 Try.underlying5 rfl) _) rfl ?_
    refine WL_val gd0 ((o_move (v := .int .i64 (IntKind.i64.wrap ((x_n42 : Int) - 1))) rfl) _) rfl ?_
    refine WL_val gd0 ((o_conv Try.underlying3 Try.underlying5 rfl) _) rfl ?_
    have h := New.out h
    refine WL_val gd0 (o_buildSlice (e := 5) (ps := [(0, .int .u8 (IntKind.u8.wrap (shr .i64 (bor .i64 (bor .i64 x31 x35) x28) 8))), (1, .int .u8 (IntKind.u8.wrap (bor .i64 (bor .i64 x31 x35) x28))), (2, .int .u8 (IntKind.u8.wrap (shr .i64 (bor .i64 (shl .i64 x37 14) x39) 8))), (3, .int .u8 (IntKind.u8.wrap (bor .i64 (shl .i64 x37 14) x39))), (4, .int .u8 (IntKind.u8.wrap (shr .i64 (IntKind.i64.wrap ((x_n42 : Int) - 1)) 8))), (5, .int .u8 (IntKind.u8.wrap (IntKind.i64.wrap ((x_n42 : Int) - 1))))]) (cs := [.int .u8 (IntKind.u8.wrap (shr .i64 (bor .i64 (bor .i64 x31 x35) x28) 8)), .int .u8 (IntKind.u8.wrap (bor .i64 (bor .i64 x31 x35) x28)), .int .u8 (IntKind.u8.wrap (shr .i64 (bor .i64 (shl .i64 x37 14) x39) 8)), .int .u8 (IntKind.u8.wrap (bor .i64 (shl .i64 x37 14) x39)), .int .u8 (IntKind.u8.wrap (shr .i64 (IntKind.i64.wrap ((x_n42 : Int) - 1)) 8)), .int .u8 (IntKind.u8.wrap (IntKind.i64.wrap ((x_n42 : Int) - 1)))]) (partCons rfl (partCons rfl (partCons rfl (partCons rfl (partCons rfl (partCons rfl partNil)))))) (fun w => by kernel_rfl)) rfl ?_
    generalize hp45 : fresh w34 = p45 at h ⊢
    generalize hw46 : push w34 5 [.int .u8 (IntKind.u8.wrap (shr .i64 (bor .i64 (bor .i64 x31 x35) x28) 8)), .int .u8 (IntKind.u8.wrap (bor .i64 (bor .i64 x31 x35) x28)), .int .u8 (IntKind.u8.wrap (shr .i64 (bor .i64 (shl .i64 x37 14) x39) 8)), .int .u8 (IntKind.u8.wrap (bor .i64 (shl .i64 x37 14) x39)), .int .u8 (IntKind.u8.wrap (shr .i64 (IntKind.i64.wrap ((x_n42 : Int) - 1)) 8)), .int .u8 (IntKind.u8.wrap (IntKind.i64.wrap ((x_n42 : Int) - 1)))] = w46 at h ⊢
    try dsimp only at h
    refine WL_val gd0 ((o_assign (v := .slice (some p45) 6 6) rfl) _) rfl ?_
    refine WL_nil ?_
    refine nrm ?_
    refine WC_seq ?_
    refine WC_region ?_
    refine WL_val gd0 ((o_move (v := .slice (some p45) 6 6) rfl) _) rfl ?_
    refine WL_val gd0 ((o_fieldAddr 5 Try.underlying34 rfl Try.sizeOf29 rfl rfl rfl) _) rfl ?_
    obtain ⟨x_a47, x_n48, x_c49, hc50, h⟩ := h
    refine WL_val gd0 (o_load Try.isAgg29 rfl hc50) rfl ?_
    obtain ⟨b_a51, b_n52, b_c53, w54, r55, h⟩ := h
    refine WL_val gd0 (o_append rfl rfl r55) rfl ?_
    refine WL_val gd0 ((o_assign (v := .slice b_a51 b_n52 b_c53) rfl) _) rfl ?_
    refine WL_val gd0 ((o_assign (v := .int .i64 0) rfl) _) rfl ?_
    refine WL_nil ?_
    refine nrm ?_
    refine WC_ret ?_
    refine rtE ?_
    exact gv2 rfl rfl rfl h

/-- (*spacecraft packer.Packer).Push -/
def F7 (p1 : Option Addr) (b_a2 : Option Addr) (b_n3 : Nat) (b_c4 : Nat) (w5 : World) (k : Value → World → Prop) : Prop :=
  Does Try.prog 14 #[.pointer p1] w5 (fun v w6 => ∃ (x7 : Bool), v = .bool x7 ∧ if x7 = true then
  k (.int .i64 2) w6
else
  Does Try.prog 15 #[.slice b_a2 b_n3 b_c4] w6 (fun v w9 => ∃ (r10 r11 : Bool) (r12 r13 r14 : Int) (r_a15 : Option Addr) (r_n16 r_c17 : Nat) (r18 r19 : Int), v = .tuple #[.agg #[.bool r10, .bool r11, .int .i64 r12, .int .i64 r13, .int .i64 r14, .slice r_a15 r_n16 r_c17], .int .i64 r18, .int .i64 r19] ∧ New w9 34 [.bool false, .bool false, .int .i64 0, .int .i64 0, .int .i64 0, .slice none 0 0] (fun p20 w21 => PutAll w21 p20 [.bool r10, .bool r11, .int .i64 r12, .int .i64 r13, .int .i64 r14, .slice r_a15 r_n16 r_c17] (fun w22 => if r19 ≠ 0 then
    k (.int .i64 1) w22
  else
    if r18 ≠ (b_n3 : Int) then
      k (.int .i64 1) w22
    else
      ∃ (x26 : Int), w22.cell? (p20.add 2) = some (.int .i64 x26) ∧ if x26 = 2047 then
        k (.int .i64 1) w22
      else
        ∃ (p29 : Addr), p1 = some p29 ∧ ∃ (x31 : Int), w22.drew.cell? (p29.add 2) = some (.int .i64 x31) ∧ ∃ (x33 : Int), w22.drew.cell? (p29.add 1) = some (.int .i64 x33) ∧ if x33 < (IntKind.i64.wrap (x31 + (b_n3 : Int))) then
          k (.int .i64 7) w22.drew
        else
          ∃ (x_a36 : Option Addr) (x_n37 x_c38 : Nat), w22.drew.drew.cell? (p29.add 4) = some (.slice x_a36 x_n37 x_c38) ∧ Does Try.prog 16 #[.slice b_a2 b_n3 b_c4] w22.drew.drew (fun v w40 => ∃ (x_a41 : Option Addr) (x_n42 x_c43 : Nat), v = .slice x_a41 x_n42 x_c43 ∧ w40.cell? (p29.add 4) = some (.slice x_a36 x_n37 x_c38) ∧ New w40 29 [.slice x_a41 x_n42 x_c43] (fun p45 w46 => w46.cell? (p29.add 4) = some (.slice x_a36 x_n37 x_c38) ∧ ∃ (b_a48 : Option Addr) (b_n49 b_c50 : Nat) (w51 : World), (Builtin.append_ #[28, 28] 28 #[.slice x_a36 x_n37 x_c38, .slice (some p45) 1 1]).run Try.prog w46 = .ok (.slice b_a48 b_n49 b_c50) w51 ∧ Put w51 (p29.add 4) (.slice b_a48 b_n49 b_c50) (fun w53 => ∃ (x55 : Int), w53.cell? (p29.add 2) = some (.int .i64 x55) ∧ Put w53 (p29.add 2) (.int .i64 (IntKind.i64.wrap (x55 + (b_n3 : Int)))) (fun w57 => k (.int .i64 0) w57))))))))
set_option maxRecDepth 100000 in
set_option maxHeartbeats 2000000 in
theorem w7 (p1 : Option Addr) (b_a2 : Option Addr) (b_n3 : Nat) (b_c4 : Nat) (w5 : World) (k : Value → World → Prop) (h : F7 p1 b_a2 b_n3 b_c4 w5 k) : Does Try.prog 7 #[.pointer p1, .slice b_a2 b_n3 b_c4] w5 k := by
  refine enter 61 Try.func7 rfl rfl rfl ?_
  intro ρ hρ
  have e0 := hρ 0 _ rfl
  have e1 := hρ 1 _ rfl
  unfold F7 at h
  refine WC_seq ?_
  refine WC_region ?_
  refine WL_val gd0 ((o_assign (v := .int .i64 0) rfl) _) rfl ?_
  refine WL_nil ?_
  refine nrm ?_
  refine WC_seq ?_
  refine WC_seq ?_
  refine WC_region ?_
  refine WL_val gd0 ((o_move (v := .pointer p1) (by exact e0)) _) rfl ?_
  refine WL_call gd0 (o_call Try.call14 (argCons rfl argNil) _) rfl (h.mono ?_)
  rintro _ w6 ⟨x7, rfl, h⟩
  refine WL_nil ?_
  refine nrm ?_
  refine WC_cond (t := x7) rfl (fun hb8 => ?_) (fun hb8 => ?_)
  · rw [if_pos hb8] at h
    refine WC_seq ?_
    refine WC_region ?_
    refine WL_val gd0 ((o_assign (v := .int .i64 2) rfl) _) rfl ?_
    refine WL_nil ?_
    refine nrm ?_
    refine WC_ret ?_
    refine rtT ?_
    refine rtE ?_
    exact gv1 rfl rfl h
  · rw [if_neg (neT hb8)] at h
    refine WC_skip ?_
    refine nrm ?_
    refine WC_seq ?_
    refine WC_region ?_
    refine WL_val gd0 ((o_move (v := .slice b_a2 b_n3 b_c4) (by exact e1)) _) rfl ?_
    refine WL_call gd0 (o_call Try.call15 (argCons rfl argNil) _) rfl (h.mono ?_)
    rintro _ w9 ⟨r10, r11, r12, r13, r14, r_a15, r_n16, r_c17, r18, r19, rfl, h⟩
    refine WL_val gd0 ((o_move (v := .tuple #[.agg #[.bool r10, .bool r11, .int .i64 r12, .int .i64 r13, .int .i64 r14, .slice r_a15 r_n16 r_c17], .int .i64 r18, .int .i64 r19]) rfl) _) rfl ?_
    refine WL_val gd0 ((o_extract (vs := [.agg #[.bool r10, .bool r11, .int .i64 r12, .int .i64 r13, .int .i64 r14, .slice r_a15 r_n16 r_c17], .int .i64 r18, .int .i64 r19]) (r := .agg #[.bool r10, .bool r11, .int .i64 r12, .int .i64 r13, .int .i64 r14, .slice r_a15 r_n16 r_c17]) rfl rfl) _) rfl ?_
    refine WL_val gd0 ((o_extract (vs := [.agg #[.bool r10, .bool r11, .int .i64 r12, .int .i64 r13, .int .i64 r14, .slice r_a15 r_n16 r_c17], .int .i64 r18, .int .i64 r19]) (r := .int .i64 r18) rfl rfl) _) rfl ?_
    refine WL_val gd0 ((o_extract (vs := [.agg #[.bool r10, .bool r11, .int .i64 r12, .int .i64 r13, .int .i64 r14, .slice r_a15 r_n16 r_c17], .int .i64 r18, .int .i64 r19]) (r := .int .i64 r19) rfl rfl) _) rfl ?_
    have h := New.out h
    refine WL_val gd0 (o_alloc (z := .agg #[.bool false, .bool false, .int .i64 0, .int .i64 0, .int .i64 0, .slice none 0 0]) (cs := [.bool false, .bool false, .int .i64 0, .int .i64 0, .int .i64 0, .slice none 0 0]) Try.zeroValue34 rfl) rfl ?_
    generalize hp20 : fresh w9 = p20 at h ⊢
    generalize hw21 : push w9 34 [.bool false, .bool false, .int .i64 0, .int .i64 0, .int .i64 0, .slice none 0 0] = w21 at h ⊢
    try dsimp only at h
    obtain ⟨c23, h⟩ := h
    refine WL_act gd0 (o_storeAgg (vs := [.bool r10, .bool r11, .int .i64 r12, .int .i64 r13, .int .i64 r14, .slice r_a15 r_n16 r_c17]) Try.sizeOf34 rfl rfl rfl c23) ?_
    generalize hw22 : setAll w21 p20 0 [.bool r10, .bool r11, .int .i64 r12, .int .i64 r13, .int .i64 r14, .slice r_a15 r_n16 r_c17] = w22 at h ⊢
    try dsimp only at h
    refine WL_val gd0 ((o_assign (v := .int .i64 r18) rfl) _) rfl ?_
    refine WL_val gd0 ((o_assign (v := .int .i64 r19) rfl) _) rfl ?_
    refine WL_nil ?_
    refine nrm ?_
    refine WC_seq ?_
    refine WC_seq ?_
    refine WC_region ?_
    refine WL_val gd0 ((o_move (v := .int .i64 r19) rfl) _) rfl ?_
    refine WL_val gd0 ((o_neq rfl rfl) _) rfl ?_
    refine WL_val gd0 ((o_move (v := .bool (decide (r19 ≠ 0))) rfl) _) rfl ?_
    refine bsplit (decide (r19 ≠ 0)) (fun hb24 => ?_) (fun hb24 => ?_)
    · rw [if_pos (of_decide_eq_true hb24)] at h
      refine WL_skip (gdN (b := (decide (r19 ≠ 0))) 18 rfl rfl hb24) rfl ?_
      refine WL_skip (gdN (b := (decide (r19 ≠ 0))) 18 rfl rfl hb24) rfl ?_
      refine WL_skip (gdN (b := (decide (r19 ≠ 0))) 18 rfl rfl hb24) rfl ?_
      refine WL_skip (gdN (b := (decide (r19 ≠ 0))) 18 rfl rfl hb24) rfl ?_
      refine WL_val gd0 ((o_pickT (v := .bool true) rfl hb24 rfl) _) rfl ?_
      refine WL_val gd0 ((o_move (v := .bool true) rfl) _) rfl ?_
      refine WL_skip (gdN (b := true) 24 rfl rfl rfl) rfl ?_
      refine WL_skip (gdN (b := true) 24 rfl rfl rfl) rfl ?_
      refine WL_skip (gdN (b := true) 24 rfl rfl rfl) rfl ?_
      refine WL_val gd0 ((o_pickT (v := .bool true) rfl rfl rfl) _) rfl ?_
      refine WL_nil ?_
      refine nrm ?_
      refine WC_cond (t := true) rfl (fun _ => ?_) (fun hx => by rw [(rfl : true = true)] at hx; cases hx)
      refine WC_seq ?_
      refine WC_region ?_
      refine WL_val gd0 ((o_assign (v := .int .i64 1) rfl) _) rfl ?_
      refine WL_nil ?_
      refine nrm ?_
      refine WC_ret ?_
      refine rtT ?_
      refine rtE ?_
      exact gv1 rfl rfl h
    · rw [if_neg (of_decide_eq_false hb24)] at h
      refine WL_val (gdY (b := (decide (r19 ≠ 0))) 18 rfl rfl hb24) ((o_move (v := .int .i64 r18) rfl) _) rfl ?_
      refine WL_val (gdY (b := (decide (r19 ≠ 0))) 18 rfl rfl hb24) ((o_move (v := .slice b_a2 b_n3 b_c4) (by exact e1)) _) rfl ?_
      refine WL_val (gdY (b := (decide (r19 ≠ 0))) 18 rfl rfl hb24) ((o_len Try.underlying29 rfl) _) rfl ?_
      refine WL_val (gdY (b := (decide (r19 ≠ 0))) 18 rfl rfl hb24) ((o_neq rfl rfl) _) rfl ?_
      refine WL_val gd0 ((o_pickF (v := .bool (decide (r18 ≠ (b_n3 : Int)))) rfl hb24 rfl) _) rfl ?_
      refine WL_val gd0 ((o_move (v := .bool (decide (r18 ≠ (b_n3 : Int)))) rfl) _) rfl ?_
      refine bsplit (decide (r18 ≠ (b_n3 : Int))) (fun hb25 => ?_) (fun hb25 => ?_)
      · rw [if_pos (of_decide_eq_true hb25)] at h
        refine WL_skip (gdN (b := (decide (r18 ≠ (b_n3 : Int)))) 24 rfl rfl hb25) rfl ?_
        refine WL_skip (gdN (b := (decide (r18 ≠ (b_n3 : Int)))) 24 rfl rfl hb25) rfl ?_
        refine WL_skip (gdN (b := (decide (r18 ≠ (b_n3 : Int)))) 24 rfl rfl hb25) rfl ?_
        refine WL_val gd0 ((o_pickT (v := .bool true) rfl hb25 rfl) _) rfl ?_
        refine WL_nil ?_
        refine nrm ?_
        refine WC_cond (t := true) rfl (fun _ => ?_) (fun hx => by rw [(rfl : true = true)] at hx; cases hx)
        refine WC_seq ?_
        refine WC_region ?_
        refine WL_val gd0 ((o_assign (v := .int .i64 1) rfl) _) rfl ?_
        refine WL_nil ?_
        refine nrm ?_
        refine WC_ret ?_
        refine rtT ?_
        refine rtE ?_
        exact gv1 rfl rfl h
      · rw [if_neg (of_decide_eq_false hb25)] at h
        refine WL_val (gdY (b := (decide (r18 ≠ (b_n3 : Int)))) 24 rfl rfl hb25) ((o_fieldAddr 2 Try.underlying34 rfl Try.sizeOf3 rfl rfl rfl) _) rfl ?_
        obtain ⟨x26, hc27, h⟩ := h
        refine WL_val (gdY (b := (decide (r18 ≠ (b_n3 : Int)))) 24 rfl rfl hb25) (o_load Try.isAgg3 rfl hc27) rfl ?_
        refine WL_val (gdY (b := (decide (r18 ≠ (b_n3 : Int)))) 24 rfl rfl hb25) ((o_eql rfl rfl) _) rfl ?_
        refine WL_val gd0 ((o_pickF (v := .bool (decide (x26 = 2047))) rfl hb25 rfl) _) rfl ?_
        refine WL_nil ?_
        refine nrm ?_
        refine WC_cond (t := (decide (x26 = 2047))) rfl (fun hb28 => ?_) (fun hb28 => ?_)
        · rw [if_pos (of_decide_eq_true hb28)] at h
          refine WC_seq ?_
          refine WC_region ?_
          refine WL_val gd0 ((o_assign (v := .int .i64 1) rfl) _) rfl ?_
          refine WL_nil ?_
          refine nrm ?_
          refine WC_ret ?_
          refine rtT ?_
          refine rtE ?_
          exact gv1 rfl rfl h
        · rw [if_neg (of_decide_eq_false hb28)] at h
          refine WC_skip ?_
          refine nrm ?_
          refine WC_seq ?_
          refine WC_seq ?_
          refine WC_draws [] (.look 0 (.look 1 (.look 2 (.look 3 (.look 4 (.look 5 (.look 6 (.look 7 (.look 8 (.look 9 (.look 10 (.look 11 .nil)))))))))))) Try.mixed (by kernel_rfl) ?_
          refine WQ_val rfl gd0 (o_move (v := .pointer p1) (by exact e0)) rfl ?_
          obtain ⟨p29, q30, h⟩ := h
          refine WQ_val rfl gd0 (o_nilCheck (by exact (congrArg Value.pointer q30))) rfl ?_
          refine WQ_val rfl gd0 (o_fieldAddr 2 Try.underlying43 rfl Try.sizeOf3 rfl rfl rfl) rfl ?_
          obtain ⟨x31, hc32, h⟩ := h
          refine WQ_look (fun w => w.cell? (p29.add 2) = some (.int .i64 x31)) rfl gd0 (fun w hc => (o_load Try.isAgg3 rfl hc)) hc32 rfl ?_
          refine WQ_val rfl gd0 (o_move (v := .slice b_a2 b_n3 b_c4) (by exact e1)) rfl ?_
          refine WQ_val rfl gd0 (o_len Try.underlying29 rfl) rfl ?_
          refine WQ_val rfl gd0 (o_add rfl rfl) rfl ?_
          refine WQ_val rfl gd0 (o_move (v := .pointer p1) (by exact e0)) rfl ?_
          refine WQ_val rfl gd0 (o_nilCheck (by exact (congrArg Value.pointer q30))) rfl ?_
          refine WQ_val rfl gd0 (o_fieldAddr 1 Try.underlying43 rfl Try.sizeOf3 rfl rfl rfl) rfl ?_
          obtain ⟨x33, hc34, h⟩ := h
          refine WQ_look (fun w => w.cell? (p29.add 1) = some (.int .i64 x33)) rfl gd0 (fun w hc => (o_load Try.isAgg3 rfl hc)) hc34 rfl ?_
          refine WQ_val rfl gd0 (o_gtr rfl rfl) rfl ?_
          refine WQ_nil ?_
          refine nrm ?_
          refine WC_cond (t := (decide (x33 < (IntKind.i64.wrap (x31 + (b_n3 : Int)))))) rfl (fun hb35 => ?_) (fun hb35 => ?_)
          · rw [if_pos (of_decide_eq_true hb35)] at h
            refine WC_seq ?_
            refine WC_region ?_
            refine WL_val gd0 ((o_assign (v := .int .i64 7) rfl) _) rfl ?_
            refine WL_nil ?_
            refine nrm ?_
            refine WC_ret ?_
            refine rtT ?_
            refine rtE ?_
            exact gv1 rfl rfl h
          · rw [if_neg (of_decide_eq_false hb35)] at h
            refine WC_skip ?_
            refine nrm ?_
            refine WC_seq ?_
            refine WC_draws [6, 7, 8, 11] (.look 0 (.look 1 (.look 2 (.look 3 (.look 4 (.look 5 (.act 6 (.act 7 (.act 8 (.look 9 (.look 10 (.act 11 .nil)))))))))))) Try.mixed (by kernel_rfl) ?_
            refine WQ_val rfl gd0 (o_move (v := .pointer p1) (by exact e0)) rfl ?_
            refine WQ_val rfl gd0 (o_move (v := .pointer p1) (by exact e0)) rfl ?_
            refine WQ_val rfl gd0 (o_nilCheck (by exact (congrArg Value.pointer q30))) rfl ?_
            refine WQ_val rfl gd0 (o_fieldAddr 4 Try.underlying43 rfl Try.sizeOf28 rfl rfl rfl) rfl ?_
            obtain ⟨x_a36, x_n37, x_c38, hc39, h⟩ := h
            refine WQ_look (fun w => w.cell? (p29.add 4) = some (.slice x_a36 x_n37 x_c38)) rfl gd0 (fun w hc => (o_load Try.isAgg28 rfl hc)) hc39 rfl ?_
            refine WQ_val rfl gd0 (o_move (v := .slice b_a2 b_n3 b_c4) (by exact e1)) rfl ?_
            refine WQ_call rfl gd0 (o_call Try.call16 (argCons rfl argNil) _) rfl (h.mono ?_)
            rintro _ w40 ⟨x_a41, x_n42, x_c43, rfl, hh44, h⟩
            refine ⟨⟨trivial, fun _ => hh44⟩, ?_⟩
            have h := New.out h
            obtain ⟨hh47, h⟩ := h
            refine WQ_act rfl gd0 (o_buildSlice (e := 29) (ps := [(0, .slice x_a41 x_n42 x_c43)]) (cs := [.slice x_a41 x_n42 x_c43]) (partCons rfl partNil) (fun w => by kernel_rfl)) rfl (by exact ⟨trivial, fun _ => hh47⟩) ?_
            generalize hp45 : fresh w40 = p45 at h ⊢
            generalize hw46 : push w40 29 [.slice x_a41 x_n42 x_c43] = w46 at h ⊢
            try dsimp only at h
            obtain ⟨b_a48, b_n49, b_c50, w51, r52, h⟩ := h
            refine WQ_act rfl gd0 (o_append rfl rfl r52) rfl (by exact ⟨trivial, depT (by kernel_rfl)⟩) ?_
            refine WQ_val rfl gd0 (o_nilCheck (by exact (congrArg Value.pointer q30))) rfl ?_
            refine WQ_val rfl gd0 (o_fieldAddr 4 Try.underlying43 rfl Try.sizeOf28 rfl rfl rfl) rfl ?_
            obtain ⟨c54, h⟩ := h
            refine WQ_do rfl gd0 (o_store (v := .slice b_a48 b_n49 b_c50) Try.sizeOf28 rfl rfl rfl c54) (by exact ⟨trivial, depT (by kernel_rfl)⟩) ?_
            generalize hw53 : World.setCell w51 (p29.add 4) (.slice b_a48 b_n49 b_c50) = w53 at h ⊢
            try dsimp only at h
            refine WQ_nil ?_
            refine nrm ?_
            refine WC_seq ?_
            refine WC_region ?_
            refine WL_val gd0 ((o_move (v := .pointer p1) (by exact e0)) _) rfl ?_
            refine WL_val gd0 ((o_nilCheck (by exact (congrArg Value.pointer q30))) _) rfl ?_
            refine WL_val gd0 ((o_fieldAddr 2 Try.underlying43 rfl Try.sizeOf3 rfl rfl rfl) _) rfl ?_
            obtain ⟨x55, hc56, h⟩ := h
            refine WL_val gd0 (o_load Try.isAgg3 rfl hc56) rfl ?_
            refine WL_val gd0 ((o_move (v := .slice b_a2 b_n3 b_c4) (by exact e1)) _) rfl ?_
            refine WL_val gd0 ((o_len Try.underlying29 rfl) _) rfl ?_
            refine WL_val gd0 ((o_add rfl rfl) _) rfl ?_
            refine WL_val gd0 ((o_nilCheck (by exact (congrArg Value.pointer q30))) _) rfl ?_
            refine WL_val gd0 ((o_fieldAddr 2 Try.underlying43 rfl Try.sizeOf3 rfl rfl rfl) _) rfl ?_
            obtain ⟨c58, h⟩ := h
            refine WL_act gd0 (o_store (v := .int .i64 (IntKind.i64.wrap (x55 + (b_n3 : Int)))) Try.sizeOf3 rfl rfl rfl c58) ?_
            generalize hw57 : World.setCell w53 (p29.add 2) (.int .i64 (IntKind.i64.wrap (x55 + (b_n3 : Int)))) = w57 at h ⊢
            try dsimp only at h
            refine WL_nil ?_
            refine nrm ?_
            refine WC_seq ?_
            refine WC_region ?_
            refine WL_val gd0 ((o_assign (v := .int .i64 0) rfl) _) rfl ?_
            refine WL_nil ?_
            refine nrm ?_
            refine WC_ret ?_
            refine rtE ?_
            exact gv1 rfl rfl h

def F8_j3 (p8 : Addr) (p1 : Option Addr) (out_n39 : Nat) (out_a38 : Option Addr) (out_c40 : Nat) (first53 : Int) (w55 : World) (nx41 : Int → Option Addr → Nat → Nat → World → Prop) : Prop :=
  ∃ (x56 : Int), w55.cell? p8 = some (.int .i64 x56) ∧ Does Try.prog 17 #[.pointer p1, .int .i64 (IntKind.i64.wrap (x56 - (out_n39 : Int)))] w55 (fun v w58 => ∃ (x_a59 : Option Addr) (x_n60 x_c61 : Nat), v = .slice x_a59 x_n60 x_c61 ∧ ∃ (b_a62 : Option Addr) (b_n63 b_c64 : Nat) (w65 : World), (Builtin.append_ #[29, 29] 29 #[.slice out_a38 out_n39 out_c40, .slice x_a59 x_n60 x_c61]).run Try.prog w58 = .ok (.slice b_a62 b_n63 b_c64) w65 ∧ nx41 first53 b_a62 b_n63 b_c64 w65)
def F8_j4 (p8 : Addr) (p1 : Option Addr) (out_n39 : Nat) (out_a38 : Option Addr) (out_c40 : Nat) (first36 : Int) (t71 : Bool) (w72 : World) (nx41 : Int → Option Addr → Nat → Nat → World → Prop) : Prop :=
  if t71 = true then
  F8_j3 p8 p1 out_n39 out_a38 out_c40 (out_n39 : Int) w72 nx41
else
  F8_j3 p8 p1 out_n39 out_a38 out_c40 first36 w72 nx41
def F8_j5 (first78 : Int) (out_a80 : Option Addr) (out_n81 : Nat) (out_c82 : Nat) (w83 : World) (k : Value → World → Prop) : Prop :=
  k (.tuple #[.slice out_a80 out_n81 out_c82, .int .i64 first78, .bool true]) w83
def F8_j6 (x84 : Int) (out_n39 : Nat) (out_a38 : Option Addr) (out_c40 : Nat) (p8 : Addr) (first89 : Int) (w92 : World) (k : Value → World → Prop) : Prop :=
  Does Try.prog 18 #[.int .i64 (max (IntKind.i64.wrap (x84 - (out_n39 : Int))) 7)] w92 (fun v w93 => ∃ (r_a94 : Option Addr) (r_n95 r_c96 : Nat) (r97 : Int), v = .tuple #[.slice r_a94 r_n95 r_c96, .int .i64 r97] ∧ (0 : Int) ≤ IntKind.i64.wrap (x84 - (out_n39 : Int)) ∧ IntKind.i64.wrap (x84 - (out_n39 : Int)) ≤ (r_c96 : Int) ∧ ∃ (b_a100 : Option Addr) (b_n101 b_c102 : Nat) (w103 : World), (Builtin.append_ #[29, 29] 29 #[.slice out_a38 out_n39 out_c40, .slice r_a94 ((IntKind.i64.wrap (x84 - (out_n39 : Int))).toNat) r_c96]).run Try.prog w93 = .ok (.slice b_a100 b_n101 b_c102) w103 ∧ (0 : Int) ≤ IntKind.i64.wrap (x84 - (out_n39 : Int)) ∧ IntKind.i64.wrap (x84 - (out_n39 : Int)) ≤ (r_n95 : Int) ∧ Put w103 (p8.add 5) (.slice (cutA r_a94 r_c96 ((IntKind.i64.wrap (x84 - (out_n39 : Int))).toNat) 1) (r_n95 - (IntKind.i64.wrap (x84 - (out_n39 : Int))).toNat) (r_c96 - (IntKind.i64.wrap (x84 - (out_n39 : Int))).toNat)) (fun w107 => F8_j5 first89 b_a100 b_n101 b_c102 w107 k))
def F8_j7 (first111 : Int) (out_a113 : Option Addr) (out_n114 : Nat) (out_c115 : Nat) (w116 : World) (k : Value → World → Prop) : Prop :=
  k (.tuple #[.slice out_a113 out_n114 out_c115, .int .i64 first111, .bool true]) w116
def F8_j8 (x117 : Int) (out_n39 : Nat) (out_a38 : Option Addr) (out_c40 : Nat) (p8 : Addr) (first122 : Int) (w125 : World) (k : Value → World → Prop) : Prop :=
  Does Try.prog 18 #[.int .i64 (max (IntKind.i64.wrap (x117 - (out_n39 : Int))) 7)] w125 (fun v w126 => ∃ (r_a127 : Option Addr) (r_n128 r_c129 : Nat) (r130 : Int), v = .tuple #[.slice r_a127 r_n128 r_c129, .int .i64 r130] ∧ (0 : Int) ≤ IntKind.i64.wrap (x117 - (out_n39 : Int)) ∧ IntKind.i64.wrap (x117 - (out_n39 : Int)) ≤ (r_c129 : Int) ∧ ∃ (b_a133 : Option Addr) (b_n134 b_c135 : Nat) (w136 : World), (Builtin.append_ #[29, 29] 29 #[.slice out_a38 out_n39 out_c40, .slice r_a127 ((IntKind.i64.wrap (x117 - (out_n39 : Int))).toNat) r_c129]).run Try.prog w126 = .ok (.slice b_a133 b_n134 b_c135) w136 ∧ (0 : Int) ≤ IntKind.i64.wrap (x117 - (out_n39 : Int)) ∧ IntKind.i64.wrap (x117 - (out_n39 : Int)) ≤ (r_n128 : Int) ∧ Put w136 (p8.add 5) (.slice (cutA r_a127 r_c129 ((IntKind.i64.wrap (x117 - (out_n39 : Int))).toNat) 1) (r_n128 - (IntKind.i64.wrap (x117 - (out_n39 : Int))).toNat) (r_c129 - (IntKind.i64.wrap (x117 - (out_n39 : Int))).toNat)) (fun w140 => F8_j7 first122 b_a133 b_n134 b_c135 w140 k))
def F8_b2 (p8 : Addr) (p1 : Option Addr) (first36 : Int) (out_a38 : Option Addr) (out_n39 : Nat) (out_c40 : Nat) (w41 : World) (nx41 : Int → Option Addr → Nat → Nat → World → Prop) (k : Value → World → Prop) : Prop :=
  ∃ (x43 : Int), w41.cell? p8 = some (.int .i64 x43) ∧ if (out_n39 : Int) < x43 then
  ∃ (x_a46 : Option Addr) (x_n47 x_c48 : Nat), w41.cell? (p8.add 4) = some (.slice x_a46 x_n47 x_c48) ∧ if 0 < (x_n47 : Int) then
    ∃ (x74 : Int), w41.cell? (p8.add 3) = some (.int .i64 x74) ∧ if x74 = 0 then
      F8_j4 p8 p1 out_n39 out_a38 out_c40 first36 (decide (first36 = 2047)) w41 nx41
    else
      F8_j4 p8 p1 out_n39 out_a38 out_c40 first36 false w41 nx41
  else
    ∃ (x84 : Int), w41.cell? p8 = some (.int .i64 x84) ∧ if 0 < (IntKind.i64.wrap (x84 - (out_n39 : Int))) then
      if first36 = 2047 then
        F8_j6 x84 out_n39 out_a38 out_c40 p8 (out_n39 : Int) w41 k
      else
        F8_j6 x84 out_n39 out_a38 out_c40 p8 first36 w41 k
    else
      F8_j5 first36 out_a38 out_n39 out_c40 w41 k
else
  ∃ (x117 : Int), w41.cell? p8 = some (.int .i64 x117) ∧ if 0 < (IntKind.i64.wrap (x117 - (out_n39 : Int))) then
    if first36 = 2047 then
      F8_j8 x117 out_n39 out_a38 out_c40 p8 (out_n39 : Int) w41 k
    else
      F8_j8 x117 out_n39 out_a38 out_c40 p8 first36 w41 k
  else
    F8_j7 first36 out_a38 out_n39 out_c40 w41 k
def F8_j1 (p1 : Option Addr) (t5 : Bool) (w6 : World) (k : Value → World → Prop) : Prop :=
  if t5 = true then
  k (.tuple #[.slice none 0 0, .int .i64 0, .bool false]) w6
else
  ∃ (p8 : Addr), p1 = some p8 ∧ ∃ (x_a10 : Option Addr) (x_n11 x_c12 : Nat), w6.drew.cell? (p8.add 5) = some (.slice x_a10 x_n11 x_c12) ∧ ∃ (x14 : Int), w6.drew.cell? p8 = some (.int .i64 x14) ∧ ∃ (x_a16 : Option Addr) (x_n17 x_c18 : Nat), w6.drew.cell? (p8.add 5) = some (.slice x_a16 x_n17 x_c18) ∧ (0 : Int) ≤ min (x_n11 : Int) x14 ∧ min (x_n11 : Int) x14 ≤ (x_c18 : Int) ∧ Does Try.prog 16 #[.slice x_a16 ((min (x_n11 : Int) x14).toNat) x_c18] w6.drew (fun v w22 => ∃ (out_a23 : Option Addr) (out_n24 out_c25 : Nat), v = .slice out_a23 out_n24 out_c25 ∧ ∃ (x_a26 : Option Addr) (x_n27 x_c28 : Nat), w22.cell? (p8.add 5) = some (.slice x_a26 x_n27 x_c28) ∧ (0 : Int) ≤ min (x_n11 : Int) x14 ∧ min (x_n11 : Int) x14 ≤ (x_n27 : Int) ∧ Put w22 (p8.add 5) (.slice (cutA x_a26 x_c28 ((min (x_n11 : Int) x14).toNat) 1) (x_n27 - (min (x_n11 : Int) x14).toNat) (x_c28 - (min (x_n11 : Int) x14).toNat)) (fun w32 => LoopP (fun (s : Int × Option Addr × Nat × Nat) w' nx' => F8_b2 p8 p1 (s.1) (s.2.1) (s.2.2.1) (s.2.2.2) w' (fun x0 x1 x2 x3 w => nx' (x0, x1, x2, x3) w) k) (2047, out_a23, out_n24, out_c25) w32))
/-- (*spacecraft packer.Packer).Next -/
def F8 (p1 : Option Addr) (w2 : World) (k : Value → World → Prop) : Prop :=
  Does Try.prog 14 #[.pointer p1] w2 (fun v w143 => ∃ (x144 : Bool), v = .bool x144 ∧ if x144 = true then
  F8_j1 p1 true w143 k
else
  ∃ (p146 : Addr), p1 = some p146 ∧ ∃ (x148 : Int), w143.cell? (p146.add 2) = some (.int .i64 x148) ∧ F8_j1 p1 (decide (x148 = 0)) w143 k)
set_option maxRecDepth 100000 in
set_option maxHeartbeats 2000000 in
theorem w8 (p1 : Option Addr) (w2 : World) (k : Value → World → Prop) (h : F8 p1 w2 k) : Does Try.prog 8 #[.pointer p1] w2 k := by
  refine enter 115 Try.func8 rfl rfl rfl ?_
  intro ρ hρ
  have e0 := hρ 0 _ rfl
  unfold F8 at h
  refine WC_seq ?_
  refine WC_region ?_
  refine WL_val gd0 ((o_assign (v := .slice none 0 0) rfl) _) rfl ?_
  refine WL_val gd0 ((o_assign (v := .int .i64 0) rfl) _) rfl ?_
  refine WL_val gd0 ((o_assign (v := .bool false) rfl) _) rfl ?_
  refine WL_nil ?_
  refine nrm ?_
  refine WC_seq ?_
  refine WC_cut (fun ρ w' => ∃ (t5 : Bool), ρ 19 = .bool t5 ∧ ρ 0 = .pointer p1 ∧ F8_j1 p1 t5 w' k) ?_ ?_
  · refine WC_region ?_
    refine WL_val gd0 ((o_move (v := .pointer p1) (by exact e0)) _) rfl ?_
    refine WL_call gd0 (o_call Try.call14 (argCons rfl argNil) _) rfl (h.mono ?_)
    rintro _ w143 ⟨x144, rfl, h⟩
    refine WL_val gd0 ((o_move (v := .bool x144) rfl) _) rfl ?_
    refine bsplit x144 (fun hb145 => ?_) (fun hb145 => ?_)
    · rw [if_pos hb145] at h
      refine WL_skip (gdN (b := x144) 13 rfl rfl hb145) rfl ?_
      refine WL_skip (gdN (b := x144) 13 rfl rfl hb145) rfl ?_
      refine WL_skip (gdN (b := x144) 13 rfl rfl hb145) rfl ?_
      refine WL_skip (gdN (b := x144) 13 rfl rfl hb145) rfl ?_
      refine WL_skip (gdN (b := x144) 13 rfl rfl hb145) rfl ?_
      refine WL_val gd0 ((o_pickT (v := .bool true) rfl hb145 rfl) _) rfl ?_
      refine WL_nil ?_
      refine nrm ?_
      exact ⟨_, rfl, e0, h⟩
    · rw [if_neg (neT hb145)] at h
      refine WL_val (gdY (b := x144) 13 rfl rfl hb145) ((o_move (v := .pointer p1) (by exact e0)) _) rfl ?_
      obtain ⟨p146, q147, h⟩ := h
      refine WL_val (gdY (b := x144) 13 rfl rfl hb145) ((o_nilCheck (by exact (congrArg Value.pointer q147))) _) rfl ?_
      refine WL_val (gdY (b := x144) 13 rfl rfl hb145) ((o_fieldAddr 2 Try.underlying43 rfl Try.sizeOf3 rfl rfl rfl) _) rfl ?_
      obtain ⟨x148, hc149, h⟩ := h
      refine WL_val (gdY (b := x144) 13 rfl rfl hb145) (o_load Try.isAgg3 rfl hc149) rfl ?_
      refine WL_val (gdY (b := x144) 13 rfl rfl hb145) ((o_eql rfl rfl) _) rfl ?_
      refine WL_val gd0 ((o_pickF (v := .bool (decide (x148 = 0))) rfl hb145 rfl) _) rfl ?_
      refine WL_nil ?_
      refine nrm ?_
      exact ⟨_, rfl, e0, h⟩
  · rintro ρ w6 ⟨t5, e19_4, e0_3, h⟩
    unfold F8_j1 at h
    refine WC_cond (t := t5) (by exact e19_4) (fun hb7 => ?_) (fun hb7 => ?_)
    · rw [if_pos hb7] at h
      refine WC_seq ?_
      refine WC_region ?_
      refine WL_val gd0 ((o_assign (v := .slice none 0 0) rfl) _) rfl ?_
      refine WL_val gd0 ((o_assign (v := .int .i64 0) rfl) _) rfl ?_
      refine WL_val gd0 ((o_assign (v := .bool false) rfl) _) rfl ?_
      refine WL_nil ?_
      refine nrm ?_
      refine WC_ret ?_
      refine rtT ?_
      refine rtE ?_
      exact gv3 rfl rfl rfl rfl h
    · rw [if_neg (neT hb7)] at h
      refine WC_skip ?_
      refine nrm ?_
      refine WC_seq ?_
      refine WC_region ?_
      refine WL_val gd0 ((o_assign (v := .int .i64 2047) rfl) _) rfl ?_
      refine WL_nil ?_
      refine nrm ?_
      refine WC_seq ?_
      refine WC_draws [] (.look 0 (.look 1 (.look 2 (.look 3 (.look 4 (.look 5 (.look 6 (.look 7 (.look 8 (.look 9 (.look 10 .nil))))))))))) Try.mixed (by kernel_rfl) ?_
      refine WQ_val rfl gd0 (o_move (v := .pointer p1) (by exact e0_3)) rfl ?_
      obtain ⟨p8, q9, h⟩ := h
      refine WQ_val rfl gd0 (o_nilCheck (by exact (congrArg Value.pointer q9))) rfl ?_
      refine WQ_val rfl gd0 (o_fieldAddr 5 Try.underlying43 rfl Try.sizeOf29 rfl rfl rfl) rfl ?_
      obtain ⟨x_a10, x_n11, x_c12, hc13, h⟩ := h
      refine WQ_look (fun w => w.cell? (p8.add 5) = some (.slice x_a10 x_n11 x_c12)) rfl gd0 (fun w hc => (o_load Try.isAgg29 rfl hc)) hc13 rfl ?_
      refine WQ_val rfl gd0 (o_len Try.underlying29 rfl) rfl ?_
      refine WQ_val rfl gd0 (o_move (v := .pointer p1) (by exact e0_3)) rfl ?_
      refine WQ_val rfl gd0 (o_nilCheck (by exact (congrArg Value.pointer q9))) rfl ?_
      refine WQ_val rfl gd0 (o_fieldAddr0 Try.underlying43 rfl Try.sizeOf3 rfl rfl rfl) rfl ?_
      obtain ⟨x14, hc15, h⟩ := h
      refine WQ_look (fun w => w.cell? p8 = some (.int .i64 x14)) rfl gd0 (fun w hc => (o_load Try.isAgg3 rfl hc)) hc15 rfl ?_
      refine WQ_val rfl gd0 (o_min2 rfl rfl) rfl ?_
      refine WQ_val rfl gd0 (o_assign (v := .int .i64 (min (x_n11 : Int) x14)) rfl) rfl ?_
      refine WQ_nil ?_
      refine nrm ?_
      refine WC_seq ?_
      refine WC_region ?_
      refine WL_val gd0 ((o_move (v := .pointer p1) (by exact e0_3)) _) rfl ?_
      refine WL_val gd0 ((o_nilCheck (by exact (congrArg Value.pointer q9))) _) rfl ?_
      refine WL_val gd0 ((o_fieldAddr 5 Try.underlying43 rfl Try.sizeOf29 rfl rfl rfl) _) rfl ?_
      obtain ⟨x_a16, x_n17, x_c18, hc19, h⟩ := h
      refine WL_val gd0 (o_load Try.isAgg29 rfl hc19) rfl ?_
      refine WL_val gd0 ((o_move (v := .int .i64 (min (x_n11 : Int) x14)) rfl) _) rfl ?_
      obtain ⟨c20, c21, h⟩ := h
      refine WL_val gd0 ((o_sliceH Try.underlying29 Try.sizeOf5 rfl rfl c20 c21) _) rfl ?_
      refine WL_call gd0 (o_call Try.call16 (argCons rfl argNil) _) rfl (h.mono ?_)
      rintro _ w22 ⟨out_a23, out_n24, out_c25, rfl, h⟩
      refine WL_val gd0 ((o_assign (v := .slice out_a23 out_n24 out_c25) rfl) _) rfl ?_
      refine WL_nil ?_
      refine nrm ?_
      refine WC_seq ?_
      refine WC_region ?_
      refine WL_val gd0 ((o_move (v := .pointer p1) (by exact e0_3)) _) rfl ?_
      refine WL_val gd0 ((o_move (v := .pointer p1) (by exact e0_3)) _) rfl ?_
      refine WL_val gd0 ((o_nilCheck (by exact (congrArg Value.pointer q9))) _) rfl ?_
      refine WL_val gd0 ((o_fieldAddr 5 Try.underlying43 rfl Try.sizeOf29 rfl rfl rfl) _) rfl ?_
      obtain ⟨x_a26, x_n27, x_c28, hc29, h⟩ := h
      refine WL_val gd0 (o_load Try.isAgg29 rfl hc29) rfl ?_
      refine WL_val gd0 ((o_move (v := .int .i64 (min (x_n11 : Int) x14)) rfl) _) rfl ?_
      obtain ⟨c30, c31, h⟩ := h
      refine WL_val gd0 ((o_sliceL Try.underlying29 Try.sizeOf5 rfl rfl c30 c31) _) rfl ?_
      refine WL_val gd0 ((o_nilCheck (by exact (congrArg Value.pointer q9))) _) rfl ?_
      refine WL_val gd0 ((o_fieldAddr 5 Try.underlying43 rfl Try.sizeOf29 rfl rfl rfl) _) rfl ?_
      obtain ⟨c33, h⟩ := h
      refine WL_act gd0 (o_store (v := .slice (cutA x_a26 x_c28 ((min (x_n11 : Int) x14).toNat) 1) (x_n27 - (min (x_n11 : Int) x14).toNat) (x_c28 - (min (x_n11 : Int) x14).toNat)) Try.sizeOf29 rfl rfl rfl c33) ?_
      generalize hw32 : World.setCell w22 (p8.add 5) (.slice (cutA x_a26 x_c28 ((min (x_n11 : Int) x14).toNat) 1) (x_n27 - (min (x_n11 : Int) x14).toNat) (x_c28 - (min (x_n11 : Int) x14).toNat)) = w32 at h ⊢
      try dsimp only at h
      refine WL_nil ?_
      refine nrm ?_
      refine WC_seq ?_
      refine WC_block ?_
      obtain ⟨J41, ⟨n41, h0⟩, hr41⟩ := h
      refine WC_loop (fun n ρ w' => ∃ (first36 : Int) (out_a38 : Option Addr) (out_n39 out_c40 : Nat), ρ 5 = .int .i64 first36 ∧ ρ 7 = .slice out_a38 out_n39 out_c40 ∧ ρ 0 = .pointer p1 ∧ J41 n (first36, out_a38, out_n39, out_c40) w') ⟨n41, _, _, _, _, rfl, rfl, e0_3, h0⟩ ?_
      rintro n41 ρ w41 ⟨first36, out_a38, out_n39, out_c40, e5_35, e7_37, e0_34, h⟩
      have h : F8_b2 p8 p1 first36 out_a38 out_n39 out_c40 w41 (fun x0 x1 x2 x3 w => ∃ m, m < n41 ∧ J41 m (x0, x1, x2, x3) w) k := hr41 n41 (first36, out_a38, out_n39, out_c40) w41 h
      unfold F8_b2 at h
      refine WC_seq ?_
      refine WC_seq ?_
      refine WC_region ?_
      refine WL_val gd0 ((o_move (v := .slice out_a38 out_n39 out_c40) (by exact e7_37)) _) rfl ?_
      refine WL_val gd0 ((o_len Try.underlying29 rfl) _) rfl ?_
      refine WL_val gd0 ((o_move (v := .pointer p1) (by exact e0_34)) _) rfl ?_
      refine WL_val gd0 ((o_nilCheck (by exact (congrArg Value.pointer q9))) _) rfl ?_
      refine WL_val gd0 ((o_fieldAddr0 Try.underlying43 rfl Try.sizeOf3 rfl rfl rfl) _) rfl ?_
      obtain ⟨x43, hc44, h⟩ := h
      refine WL_val gd0 (o_load Try.isAgg3 rfl hc44) rfl ?_
      refine WL_val gd0 ((o_lss rfl rfl) _) rfl ?_
      refine WL_val gd0 ((o_move (v := .bool (decide ((out_n39 : Int) < x43))) rfl) _) rfl ?_
      refine bsplit (decide ((out_n39 : Int) < x43)) (fun hb45 => ?_) (fun hb45 => ?_)
      · rw [if_pos (of_decide_eq_true hb45)] at h
        refine WL_val (gdY (b := (decide ((out_n39 : Int) < x43))) 53 rfl rfl hb45) ((o_move (v := .pointer p1) (by exact e0_34)) _) rfl ?_
        refine WL_val (gdY (b := (decide ((out_n39 : Int) < x43))) 53 rfl rfl hb45) ((o_nilCheck (by exact (congrArg Value.pointer q9))) _) rfl ?_
        refine WL_val (gdY (b := (decide ((out_n39 : Int) < x43))) 53 rfl rfl hb45) ((o_fieldAddr 4 Try.underlying43 rfl Try.sizeOf28 rfl rfl rfl) _) rfl ?_
        obtain ⟨x_a46, x_n47, x_c48, hc49, h⟩ := h
        refine WL_val (gdY (b := (decide ((out_n39 : Int) < x43))) 53 rfl rfl hb45) (o_load Try.isAgg28 rfl hc49) rfl ?_
        refine WL_val (gdY (b := (decide ((out_n39 : Int) < x43))) 53 rfl rfl hb45) ((o_len Try.underlying28 rfl) _) rfl ?_
        refine WL_val (gdY (b := (decide ((out_n39 : Int) < x43))) 53 rfl rfl hb45) ((o_gtr rfl rfl) _) rfl ?_
        refine WL_val gd0 ((o_pickT (v := .bool (decide (0 < (x_n47 : Int)))) rfl hb45 rfl) _) rfl ?_
        refine WL_nil ?_
        refine nrm ?_
        refine WC_cond (t := (decide (0 < (x_n47 : Int)))) rfl (fun hb50 => ?_) (fun hb50 => ?_)
        · rw [if_pos (of_decide_eq_true hb50)] at h
          refine WC_skip ?_
          refine nrm ?_
          refine WC_block ?_
          refine WC_cut (fun ρ w' => ∃ (first53 : Int), ρ 5 = .int .i64 first53 ∧ ρ 0 = .pointer p1 ∧ ρ 7 = .slice out_a38 out_n39 out_c40 ∧ F8_j3 p8 p1 out_n39 out_a38 out_c40 first53 w' (fun x0 x1 x2 x3 w => ∃ m, m < n41 ∧ J41 m (x0, x1, x2, x3) w)) ?_ ?_
          · refine WC_cut (fun ρ w' => ∃ (t71 : Bool), ρ 69 = .bool t71 ∧ ρ 0 = .pointer p1 ∧ ρ 5 = .int .i64 first36 ∧ ρ 7 = .slice out_a38 out_n39 out_c40 ∧ F8_j4 p8 p1 out_n39 out_a38 out_c40 first36 t71 w' (fun x0 x1 x2 x3 w => ∃ m, m < n41 ∧ J41 m (x0, x1, x2, x3) w)) ?_ ?_
            · refine WC_region ?_
              refine WL_val gd0 ((o_move (v := .pointer p1) (by exact e0_34)) _) rfl ?_
              refine WL_val gd0 ((o_nilCheck (by exact (congrArg Value.pointer q9))) _) rfl ?_
              refine WL_val gd0 ((o_fieldAddr 3 Try.underlying43 rfl Try.sizeOf3 rfl rfl rfl) _) rfl ?_
              obtain ⟨x74, hc75, h⟩ := h
              refine WL_val gd0 (o_load Try.isAgg3 rfl hc75) rfl ?_
              refine WL_val gd0 ((o_eql rfl rfl) _) rfl ?_
              refine WL_val gd0 ((o_move (v := .bool (decide (x74 = 0))) rfl) _) rfl ?_
              refine bsplit (decide (x74 = 0)) (fun hb76 => ?_) (fun hb76 => ?_)
              · rw [if_pos (of_decide_eq_true hb76)] at h
                refine WL_val (gdY (b := (decide (x74 = 0))) 66 rfl rfl hb76) ((o_move (v := .int .i64 first36) (by exact e5_35)) _) rfl ?_
                refine WL_val (gdY (b := (decide (x74 = 0))) 66 rfl rfl hb76) ((o_eql rfl rfl) _) rfl ?_
                refine WL_val gd0 ((o_pickT (v := .bool (decide (first36 = 2047))) rfl hb76 rfl) _) rfl ?_
                refine WL_nil ?_
                refine nrm ?_
                exact ⟨_, rfl, e0_34, e5_35, e7_37, h⟩
              · rw [if_neg (of_decide_eq_false hb76)] at h
                refine WL_skip (gdN (b := (decide (x74 = 0))) 66 rfl rfl hb76) rfl ?_
                refine WL_skip (gdN (b := (decide (x74 = 0))) 66 rfl rfl hb76) rfl ?_
                refine WL_val gd0 ((o_pickF (v := .bool false) rfl hb76 rfl) _) rfl ?_
                refine WL_nil ?_
                refine nrm ?_
                exact ⟨_, rfl, e0_34, e5_35, e7_37, h⟩
            · rintro ρ w72 ⟨t71, e69_70, e0_67, e5_68, e7_69, h⟩
              unfold F8_j4 at h
              refine WC_cond (t := t71) (by exact e69_70) (fun hb73 => ?_) (fun hb73 => ?_)
              · rw [if_pos hb73] at h
                refine WC_region ?_
                refine WL_val gd0 ((o_move (v := .slice out_a38 out_n39 out_c40) (by exact e7_69)) _) rfl ?_
                refine WL_val gd0 ((o_len Try.underlying29 rfl) _) rfl ?_
                refine WL_val gd0 ((o_assign (v := .int .i64 (out_n39 : Int)) rfl) _) rfl ?_
                refine WL_nil ?_
                refine nrm ?_
                exact ⟨_, rfl, e0_67, e7_69, h⟩
              · rw [if_neg (neT hb73)] at h
                refine WC_skip ?_
                refine nrm ?_
                exact ⟨_, e5_68, e0_67, e7_69, h⟩
          · rintro ρ w55 ⟨first53, e5_52, e0_51, e7_54, h⟩
            unfold F8_j3 at h
            refine WC_region ?_
            refine WL_val gd0 ((o_move (v := .slice out_a38 out_n39 out_c40) (by exact e7_54)) _) rfl ?_
            refine WL_val gd0 ((o_move (v := .pointer p1) (by exact e0_51)) _) rfl ?_
            refine WL_val gd0 ((o_move (v := .pointer p1) (by exact e0_51)) _) rfl ?_
            refine WL_val gd0 ((o_nilCheck (by exact (congrArg Value.pointer q9))) _) rfl ?_
            refine WL_val gd0 ((o_fieldAddr0 Try.underlying43 rfl Try.sizeOf3 rfl rfl rfl) _) rfl ?_
            obtain ⟨x56, hc57, h⟩ := h
            refine WL_val gd0 (o_load Try.isAgg3 rfl hc57) rfl ?_
            refine WL_val gd0 ((o_move (v := .slice out_a38 out_n39 out_c40) (by exact e7_54)) _) rfl ?_
            refine WL_val gd0 ((o_len Try.underlying29 rfl) _) rfl ?_
            refine WL_val gd0 ((o_sub rfl rfl) _) rfl ?_
            refine WL_call gd0 (o_call Try.call17 (argCons rfl (argCons rfl argNil)) _) rfl (h.mono ?_)
            rintro _ w58 ⟨x_a59, x_n60, x_c61, rfl, h⟩
            obtain ⟨b_a62, b_n63, b_c64, w65, r66, h⟩ := h
            refine WL_val gd0 (o_append rfl rfl r66) rfl ?_
            refine WL_val gd0 ((o_assign (v := .slice b_a62 b_n63 b_c64) rfl) _) rfl ?_
            refine WL_nil ?_
            refine nrmB ?_
            refine nrm ?_
            obtain ⟨m42, hm42, h⟩ := h
            exact ⟨m42, hm42, _, _, _, _, e5_52, rfl, e0_51, h⟩
        · rw [if_neg (of_decide_eq_false hb50)] at h
          refine WC_exit ?_
          refine exT ?_
          refine exT ?_
          refine exB ?_
          refine nrm ?_
          refine WC_cut (fun ρ w' => ∃ (first78 : Int) (out_a80 : Option Addr) (out_n81 out_c82 : Nat), ρ 5 = .int .i64 first78 ∧ ρ 7 = .slice out_a80 out_n81 out_c82 ∧ F8_j5 first78 out_a80 out_n81 out_c82 w' k) ?_ ?_
          · refine WC_seq ?_
            refine WC_region ?_
            refine WL_val gd0 ((o_move (v := .pointer p1) (by exact e0_34)) _) rfl ?_
            refine WL_val gd0 ((o_nilCheck (by exact (congrArg Value.pointer q9))) _) rfl ?_
            refine WL_val gd0 ((o_fieldAddr0 Try.underlying43 rfl Try.sizeOf3 rfl rfl rfl) _) rfl ?_
            obtain ⟨x84, hc85, h⟩ := h
            refine WL_val gd0 (o_load Try.isAgg3 rfl hc85) rfl ?_
            refine WL_val gd0 ((o_move (v := .slice out_a38 out_n39 out_c40) (by exact e7_37)) _) rfl ?_
            refine WL_val gd0 ((o_len Try.underlying29 rfl) _) rfl ?_
            refine WL_val gd0 ((o_sub rfl rfl) _) rfl ?_
            refine WL_val gd0 ((o_assign (v := .int .i64 (IntKind.i64.wrap (x84 - (out_n39 : Int)))) rfl) _) rfl ?_
            refine WL_nil ?_
            refine nrm ?_
            refine WC_seq ?_
            refine WC_region ?_
            refine WL_val gd0 ((o_move (v := .int .i64 (IntKind.i64.wrap (x84 - (out_n39 : Int)))) rfl) _) rfl ?_
            refine WL_val gd0 ((o_gtr rfl rfl) _) rfl ?_
            refine WL_nil ?_
            refine nrm ?_
            refine WC_cond (t := (decide (0 < (IntKind.i64.wrap (x84 - (out_n39 : Int)))))) rfl (fun hb86 => ?_) (fun hb86 => ?_)
            · rw [if_pos (of_decide_eq_true hb86)] at h
              refine WC_cut (fun ρ w' => ∃ (first89 : Int), ρ 5 = .int .i64 first89 ∧ ρ 0 = .pointer p1 ∧ ρ 7 = .slice out_a38 out_n39 out_c40 ∧ ρ 8 = .int .i64 (IntKind.i64.wrap (x84 - (out_n39 : Int))) ∧ F8_j6 x84 out_n39 out_a38 out_c40 p8 first89 w' k) ?_ ?_
              · refine WC_seq ?_
                refine WC_region ?_
                refine WL_val gd0 ((o_move (v := .int .i64 first36) (by exact e5_35)) _) rfl ?_
                refine WL_val gd0 ((o_eql rfl rfl) _) rfl ?_
                refine WL_nil ?_
                refine nrm ?_
                refine WC_cond (t := (decide (first36 = 2047))) rfl (fun hb109 => ?_) (fun hb109 => ?_)
                · rw [if_pos (of_decide_eq_true hb109)] at h
                  refine WC_region ?_
                  refine WL_val gd0 ((o_move (v := .slice out_a38 out_n39 out_c40) (by exact e7_37)) _) rfl ?_
                  refine WL_val gd0 ((o_len Try.underlying29 rfl) _) rfl ?_
                  refine WL_val gd0 ((o_assign (v := .int .i64 (out_n39 : Int)) rfl) _) rfl ?_
                  refine WL_nil ?_
                  refine nrm ?_
                  exact ⟨_, rfl, e0_34, e7_37, rfl, h⟩
                · rw [if_neg (of_decide_eq_false hb109)] at h
                  refine WC_skip ?_
                  refine nrm ?_
                  exact ⟨_, e5_35, e0_34, e7_37, rfl, h⟩
              · rintro ρ w92 ⟨first89, e5_88, e0_87, e7_90, e8_91, h⟩
                unfold F8_j6 at h
                refine WC_seq ?_
                refine WC_region ?_
                refine WL_val gd0 ((o_move (v := .int .i64 (IntKind.i64.wrap (x84 - (out_n39 : Int)))) (by exact e8_91)) _) rfl ?_
                refine WL_val gd0 ((o_max2 rfl rfl) _) rfl ?_
                refine WL_call gd0 (o_call Try.call18 (argCons rfl argNil) _) rfl (h.mono ?_)
                rintro _ w93 ⟨r_a94, r_n95, r_c96, r97, rfl, h⟩
                refine WL_val gd0 ((o_move (v := .tuple #[.slice r_a94 r_n95 r_c96, .int .i64 r97]) rfl) _) rfl ?_
                refine WL_val gd0 ((o_extract (vs := [.slice r_a94 r_n95 r_c96, .int .i64 r97]) (r := .slice r_a94 r_n95 r_c96) rfl rfl) _) rfl ?_
                refine WL_val gd0 ((o_extract (vs := [.slice r_a94 r_n95 r_c96, .int .i64 r97]) (r := .int .i64 r97) rfl rfl) _) rfl ?_
                refine WL_val gd0 ((o_assign (v := .slice r_a94 r_n95 r_c96) rfl) _) rfl ?_
                refine WL_val gd0 ((o_assign (v := .int .i64 r97) rfl) _) rfl ?_
                refine WL_nil ?_
                refine nrm ?_
                refine WC_seq ?_
                refine WC_region ?_
                refine WL_val gd0 ((o_move (v := .slice out_a38 out_n39 out_c40) (by exact e7_90)) _) rfl ?_
                refine WL_val gd0 ((o_move (v := .slice r_a94 r_n95 r_c96) rfl) _) rfl ?_
                refine WL_val gd0 ((o_move (v := .int .i64 (IntKind.i64.wrap (x84 - (out_n39 : Int)))) (by exact e8_91)) _) rfl ?_
                obtain ⟨c98, c99, h⟩ := h
                refine WL_val gd0 ((o_sliceH Try.underlying29 Try.sizeOf5 rfl rfl c98 c99) _) rfl ?_
                obtain ⟨b_a100, b_n101, b_c102, w103, r104, h⟩ := h
                refine WL_val gd0 (o_append rfl rfl r104) rfl ?_
                refine WL_val gd0 ((o_assign (v := .slice b_a100 b_n101 b_c102) rfl) _) rfl ?_
                refine WL_nil ?_
                refine nrm ?_
                refine WC_region ?_
                refine WL_val gd0 ((o_move (v := .pointer p1) (by exact e0_87)) _) rfl ?_
                refine WL_val gd0 ((o_move (v := .slice r_a94 r_n95 r_c96) rfl) _) rfl ?_
                refine WL_val gd0 ((o_move (v := .int .i64 (IntKind.i64.wrap (x84 - (out_n39 : Int)))) (by exact e8_91)) _) rfl ?_
                obtain ⟨c105, c106, h⟩ := h
                refine WL_val gd0 ((o_sliceL Try.underlying29 Try.sizeOf5 rfl rfl c105 c106) _) rfl ?_
                refine WL_val gd0 ((o_nilCheck (by exact (congrArg Value.pointer q9))) _) rfl ?_
                refine WL_val gd0 ((o_fieldAddr 5 Try.underlying43 rfl Try.sizeOf29 rfl rfl rfl) _) rfl ?_
                obtain ⟨c108, h⟩ := h
                refine WL_act gd0 (o_store (v := .slice (cutA r_a94 r_c96 ((IntKind.i64.wrap (x84 - (out_n39 : Int))).toNat) 1) (r_n95 - (IntKind.i64.wrap (x84 - (out_n39 : Int))).toNat) (r_c96 - (IntKind.i64.wrap (x84 - (out_n39 : Int))).toNat)) Try.sizeOf29 rfl rfl rfl c108) ?_
                generalize hw107 : World.setCell w103 (p8.add 5) (.slice (cutA r_a94 r_c96 ((IntKind.i64.wrap (x84 - (out_n39 : Int))).toNat) 1) (r_n95 - (IntKind.i64.wrap (x84 - (out_n39 : Int))).toNat) (r_c96 - (IntKind.i64.wrap (x84 - (out_n39 : Int))).toNat)) = w107 at h ⊢
                try dsimp only at h
                refine WL_nil ?_
                refine nrm ?_
                exact ⟨_, _, _, _, e5_88, rfl, h⟩
            · rw [if_neg (of_decide_eq_false hb86)] at h
              refine WC_skip ?_
              refine nrm ?_
              exact ⟨_, _, _, _, e5_35, e7_37, h⟩
          · rintro ρ w83 ⟨first78, out_a80, out_n81, out_c82, e5_77, e7_79, h⟩
            unfold F8_j5 at h
            refine WC_seq ?_
            refine WC_region ?_
            refine WL_val gd0 ((o_move (v := .slice out_a80 out_n81 out_c82) (by exact e7_79)) _) rfl ?_
            refine WL_val gd0 ((o_move (v := .int .i64 first78) (by exact e5_77)) _) rfl ?_
            refine WL_val gd0 ((o_assign (v := .slice out_a80 out_n81 out_c82) rfl) _) rfl ?_
            refine WL_val gd0 ((o_assign (v := .int .i64 first78) rfl) _) rfl ?_
            refine WL_val gd0 ((o_assign (v := .bool true) rfl) _) rfl ?_
            refine WL_nil ?_
            refine nrm ?_
            refine WC_ret ?_
            refine rtE ?_
            exact gv3 rfl rfl rfl rfl h
      · rw [if_neg (of_decide_eq_false hb45)] at h
        refine WL_skip (gdN (b := (decide ((out_n39 : Int) < x43))) 53 rfl rfl hb45) rfl ?_
        refine WL_skip (gdN (b := (decide ((out_n39 : Int) < x43))) 53 rfl rfl hb45) rfl ?_
        refine WL_skip (gdN (b := (decide ((out_n39 : Int) < x43))) 53 rfl rfl hb45) rfl ?_
        refine WL_skip (gdN (b := (decide ((out_n39 : Int) < x43))) 53 rfl rfl hb45) rfl ?_
        refine WL_skip (gdN (b := (decide ((out_n39 : Int) < x43))) 53 rfl rfl hb45) rfl ?_
        refine WL_skip (gdN (b := (decide ((out_n39 : Int) < x43))) 53 rfl rfl hb45) rfl ?_
        refine WL_val gd0 ((o_pickF (v := .bool false) rfl hb45 rfl) _) rfl ?_
        refine WL_nil ?_
        refine nrm ?_
        refine WC_cond (t := false) rfl (fun hx => by rw [(rfl : false = false)] at hx; cases hx) (fun _ => ?_)
        refine WC_exit ?_
        refine exT ?_
        refine exT ?_
        refine exB ?_
        refine nrm ?_
        refine WC_cut (fun ρ w' => ∃ (first111 : Int) (out_a113 : Option Addr) (out_n114 out_c115 : Nat), ρ 5 = .int .i64 first111 ∧ ρ 7 = .slice out_a113 out_n114 out_c115 ∧ F8_j7 first111 out_a113 out_n114 out_c115 w' k) ?_ ?_
        · refine WC_seq ?_
          refine WC_region ?_
          refine WL_val gd0 ((o_move (v := .pointer p1) (by exact e0_34)) _) rfl ?_
          refine WL_val gd0 ((o_nilCheck (by exact (congrArg Value.pointer q9))) _) rfl ?_
          refine WL_val gd0 ((o_fieldAddr0 Try.underlying43 rfl Try.sizeOf3 rfl rfl rfl) _) rfl ?_
          obtain ⟨x117, hc118, h⟩ := h
          refine WL_val gd0 (o_load Try.isAgg3 rfl hc118) rfl ?_
          refine WL_val gd0 ((o_move (v := .slice out_a38 out_n39 out_c40) (by exact e7_37)) _) rfl ?_
          refine WL_val gd0 ((o_len Try.underlying29 rfl) _) rfl ?_
          refine WL_val gd0 ((o_sub rfl rfl) _) rfl ?_
          refine WL_val gd0 ((o_assign (v := .int .i64 (IntKind.i64.wrap (x117 - (out_n39 : Int)))) rfl) _) rfl ?_
          refine WL_nil ?_
          refine nrm ?_
          refine WC_seq ?_
          refine WC_region ?_
          refine WL_val gd0 ((o_move (v := .int .i64 (IntKind.i64.wrap (x117 - (out_n39 : Int)))) rfl) _) rfl ?_
          refine WL_val gd0 ((o_gtr rfl rfl) _) rfl ?_
          refine WL_nil ?_
          refine nrm ?_
          refine WC_cond (t := (decide (0 < (IntKind.i64.wrap (x117 - (out_n39 : Int)))))) rfl (fun hb119 => ?_) (fun hb119 => ?_)
          · rw [if_pos (of_decide_eq_true hb119)] at h
            refine WC_cut (fun ρ w' => ∃ (first122 : Int), ρ 5 = .int .i64 first122 ∧ ρ 0 = .pointer p1 ∧ ρ 7 = .slice out_a38 out_n39 out_c40 ∧ ρ 8 = .int .i64 (IntKind.i64.wrap (x117 - (out_n39 : Int))) ∧ F8_j8 x117 out_n39 out_a38 out_c40 p8 first122 w' k) ?_ ?_
            · refine WC_seq ?_
              refine WC_region ?_
              refine WL_val gd0 ((o_move (v := .int .i64 first36) (by exact e5_35)) _) rfl ?_
              refine WL_val gd0 ((o_eql rfl rfl) _) rfl ?_
              refine WL_nil ?_
              refine nrm ?_
              refine WC_cond (t := (decide (first36 = 2047))) rfl (fun hb142 => ?_) (fun hb142 => ?_)
              · rw [if_pos (of_decide_eq_true hb142)] at h
                refine WC_region ?_
                refine WL_val gd0 ((o_move (v := .slice out_a38 out_n39 out_c40) (by exact e7_37)) _) rfl ?_
                refine WL_val gd0 ((o_len Try.underlying29 rfl) _) rfl ?_
                refine WL_val gd0 ((o_assign (v := .int .i64 (out_n39 : Int)) rfl) _) rfl ?_
                refine WL_nil ?_
                refine nrm ?_
                exact ⟨_, rfl, e0_34, e7_37, rfl, h⟩
              · rw [if_neg (of_decide_eq_false hb142)] at h
                refine WC_skip ?_
                refine nrm ?_
                exact ⟨_, e5_35, e0_34, e7_37, rfl, h⟩
            · rintro ρ w125 ⟨first122, e5_121, e0_120, e7_123, e8_124, h⟩
              unfold F8_j8 at h
              refine WC_seq ?_
              refine WC_region ?_
              refine WL_val gd0 ((o_move (v := .int .i64 (IntKind.i64.wrap (x117 - (out_n39 : Int)))) (by exact e8_124)) _) rfl ?_
              refine WL_val gd0 ((o_max2 rfl rfl) _) rfl ?_
              refine WL_call gd0 (o_call Try.call18 (argCons rfl argNil) _) rfl (h.mono ?_)
              rintro _ w126 ⟨r_a127, r_n128, r_c129, r130, rfl, h⟩
              refine WL_val gd0 ((o_move (v := .tuple #[.slice r_a127 r_n128 r_c129, .int .i64 r130]) rfl) _) rfl ?_
              refine WL_val gd0 ((o_extract (vs := [.slice r_a127 r_n128 r_c129, .int .i64 r130]) (r := .slice r_a127 r_n128 r_c129) rfl rfl) _) rfl ?_
              refine WL_val gd0 ((o_extract (vs := [.slice r_a127 r_n128 r_c129, .int .i64 r130]) (r := .int .i64 r130) rfl rfl) _) rfl ?_
              refine WL_val gd0 ((o_assign (v := .slice r_a127 r_n128 r_c129) rfl) _) rfl ?_
              refine WL_val gd0 ((o_assign (v := .int .i64 r130) rfl) _) rfl ?_
              refine WL_nil ?_
              refine nrm ?_
              refine WC_seq ?_
              refine WC_region ?_
              refine WL_val gd0 ((o_move (v := .slice out_a38 out_n39 out_c40) (by exact e7_123)) _) rfl ?_
              refine WL_val gd0 ((o_move (v := .slice r_a127 r_n128 r_c129) rfl) _) rfl ?_
              refine WL_val gd0 ((o_move (v := .int .i64 (IntKind.i64.wrap (x117 - (out_n39 : Int)))) (by exact e8_124)) _) rfl ?_
              obtain ⟨c131, c132, h⟩ := h
              refine WL_val gd0 ((o_sliceH Try.underlying29 Try.sizeOf5 rfl rfl c131 c132) _) rfl ?_
              obtain ⟨b_a133, b_n134, b_c135, w136, r137, h⟩ := h
              refine WL_val gd0 (o_append rfl rfl r137) rfl ?_
              refine WL_val gd0 ((o_assign (v := .slice b_a133 b_n134 b_c135) rfl) _) rfl ?_
              refine WL_nil ?_
              refine nrm ?_
              refine WC_region ?_
              refine WL_val gd0 ((o_move (v := .pointer p1) (by exact e0_120)) _) rfl ?_
              refine WL_val gd0 ((o_move (v := .slice r_a127 r_n128 r_c129) rfl) _) rfl ?_
              refine WL_val gd0 ((o_move (v := .int .i64 (IntKind.i64.wrap (x117 - (out_n39 : Int)))) (by exact e8_124)) _) rfl ?_
              obtain ⟨c138, c139, h⟩ := h
              refine WL_val gd0 ((o_sliceL Try.underlying29 Try.sizeOf5 rfl rfl c138 c139) _) rfl ?_
              refine WL_val gd0 ((o_nilCheck (by exact (congrArg Value.pointer q9))) _) rfl ?_
              refine WL_val gd0 ((o_fieldAddr 5 Try.underlying43 rfl Try.sizeOf29 rfl rfl rfl) _) rfl ?_
              obtain ⟨c141, h⟩ := h
              refine WL_act gd0 (o_store (v := .slice (cutA r_a127 r_c129 ((IntKind.i64.wrap (x117 - (out_n39 : Int))).toNat) 1) (r_n128 - (IntKind.i64.wrap (x117 - (out_n39 : Int))).toNat) (r_c129 - (IntKind.i64.wrap (x117 - (out_n39 : Int))).toNat)) Try.sizeOf29 rfl rfl rfl c141) ?_
              generalize hw140 : World.setCell w136 (p8.add 5) (.slice (cutA r_a127 r_c129 ((IntKind.i64.wrap (x117 - (out_n39 : Int))).toNat) 1) (r_n128 - (IntKind.i64.wrap (x117 - (out_n39 : Int))).toNat) (r_c129 - (IntKind.i64.wrap (x117 - (out_n39 : Int))).toNat)) = w140 at h ⊢
              try dsimp only at h
              refine WL_nil ?_
              refine nrm ?_
              exact ⟨_, _, _, _, e5_121, rfl, h⟩
          · rw [if_neg (of_decide_eq_false hb119)] at h
            refine WC_skip ?_
            refine nrm ?_
            exact ⟨_, _, _, _, e5_35, e7_37, h⟩
        · rintro ρ w116 ⟨first111, out_a113, out_n114, out_c115, e5_110, e7_112, h⟩
          unfold F8_j7 at h
          refine WC_seq ?_
          refine WC_region ?_
          refine WL_val gd0 ((o_move (v := .slice out_a113 out_n114 out_c115) (by exact e7_112)) _) rfl ?_
          refine WL_val gd0 ((o_move (v := .int .i64 first111) (by exact e5_110)) _) rfl ?_
          refine WL_val gd0 ((o_assign (v := .slice out_a113 out_n114 out_c115) rfl) _) rfl ?_
          refine WL_val gd0 ((o_assign (v := .int .i64 first111) rfl) _) rfl ?_
          refine WL_val gd0 ((o_assign (v := .bool true) rfl) _) rfl ?_
          refine WL_nil ?_
          refine nrm ?_
          refine WC_ret ?_
          refine rtE ?_
          exact gv3 rfl rfl rfl rfl h

/-- spacecraft spacecrafttop.has -/
def F9 (l_a1 : Option Addr) (l_n2 : Nat) (l_c3 : Nat) (i4 : Int) (w5 : World) (k : Value → World → Prop) : Prop :=
  if 0 ≤ i4 then
  if i4 < (l_n2 : Int) then
    ∃ (p10 : Addr), l_a1 = some p10 ∧ (0 : Int) ≤ i4 ∧ i4 < (l_n2 : Int) ∧ ∃ (x12 : Bool), w5.cell? (p10.add i4.toNat) = some (.bool x12) ∧ k (.bool x12) w5
  else
    k (.bool false) w5
else
  k (.bool false) w5
set_option maxRecDepth 100000 in
set_option maxHeartbeats 2000000 in
theorem w9 (l_a1 : Option Addr) (l_n2 : Nat) (l_c3 : Nat) (i4 : Int) (w5 : World) (k : Value → World → Prop) (h : F9 l_a1 l_n2 l_c3 i4 w5 k) : Does Try.prog 9 #[.slice l_a1 l_n2 l_c3, .int .i64 i4] w5 k := by
  refine enter 19 Try.func9 rfl rfl rfl ?_
  intro ρ hρ
  have e0 := hρ 0 _ rfl
  have e1 := hρ 1 _ rfl
  unfold F9 at h
  refine WC_seq ?_
  refine WC_region ?_
  refine WL_val gd0 ((o_assign (v := .bool false) rfl) _) rfl ?_
  refine WL_nil ?_
  refine nrm ?_
  refine WC_seq ?_
  refine WC_region ?_
  refine WL_val gd0 ((o_move (v := .int .i64 i4) (by exact e1)) _) rfl ?_
  refine WL_val gd0 ((o_geq rfl rfl) _) rfl ?_
  refine WL_val gd0 ((o_move (v := .bool (decide (0 ≤ i4))) rfl) _) rfl ?_
  refine bsplit (decide (0 ≤ i4)) (fun hb6 => ?_) (fun hb6 => ?_)
  · rw [if_pos (of_decide_eq_true hb6)] at h
    refine WL_val (gdY (b := (decide (0 ≤ i4))) 7 rfl rfl hb6) ((o_move (v := .int .i64 i4) (by exact e1)) _) rfl ?_
    refine WL_val (gdY (b := (decide (0 ≤ i4))) 7 rfl rfl hb6) ((o_move (v := .slice l_a1 l_n2 l_c3) (by exact e0)) _) rfl ?_
    refine WL_val (gdY (b := (decide (0 ≤ i4))) 7 rfl rfl hb6) ((o_len Try.underlying23 rfl) _) rfl ?_
    refine WL_val (gdY (b := (decide (0 ≤ i4))) 7 rfl rfl hb6) ((o_lss rfl rfl) _) rfl ?_
    refine WL_val gd0 ((o_pickT (v := .bool (decide (i4 < (l_n2 : Int)))) rfl hb6 rfl) _) rfl ?_
    refine WL_val gd0 ((o_move (v := .bool (decide (i4 < (l_n2 : Int)))) rfl) _) rfl ?_
    refine bsplit (decide (i4 < (l_n2 : Int))) (fun hb7 => ?_) (fun hb7 => ?_)
    · rw [if_pos (of_decide_eq_true hb7)] at h
      refine WL_val (gdY (b := (decide (i4 < (l_n2 : Int)))) 13 rfl rfl hb7) ((o_move (v := .slice l_a1 l_n2 l_c3) (by exact e0)) _) rfl ?_
      refine WL_val (gdY (b := (decide (i4 < (l_n2 : Int)))) 13 rfl rfl hb7) ((o_move (v := .int .i64 i4) (by exact e1)) _) rfl ?_
      obtain ⟨p10, q11, h⟩ := h
      obtain ⟨l8, u9, h⟩ := h
      refine WL_val (gdY (b := (decide (i4 < (l_n2 : Int)))) 13 rfl rfl hb7) ((o_indexAddr1 Try.underlying23 Try.sizeOf4 (by exact (congrArg (fun z => Value.slice z l_n2 l_c3) q11)) rfl l8 u9) _) rfl ?_
      obtain ⟨x12, hc13, h⟩ := h
      refine WL_val (gdY (b := (decide (i4 < (l_n2 : Int)))) 13 rfl rfl hb7) (o_load Try.isAgg4 rfl hc13) rfl ?_
      refine WL_val gd0 ((o_pickT (v := .bool x12) rfl hb7 rfl) _) rfl ?_
      refine WL_val gd0 ((o_assign (v := .bool x12) rfl) _) rfl ?_
      refine WL_nil ?_
      refine nrm ?_
      refine WC_ret ?_
      refine rtE ?_
      exact gv1 rfl rfl h
    · rw [if_neg (of_decide_eq_false hb7)] at h
      refine WL_skip (gdN (b := (decide (i4 < (l_n2 : Int)))) 13 rfl rfl hb7) rfl ?_
      refine WL_skip (gdN (b := (decide (i4 < (l_n2 : Int)))) 13 rfl rfl hb7) rfl ?_
      refine WL_skip (gdN (b := (decide (i4 < (l_n2 : Int)))) 13 rfl rfl hb7) rfl ?_
      refine WL_skip (gdN (b := (decide (i4 < (l_n2 : Int)))) 13 rfl rfl hb7) rfl ?_
      refine WL_val gd0 ((o_pickF (v := .bool false) rfl hb7 rfl) _) rfl ?_
      refine WL_val gd0 ((o_assign (v := .bool false) rfl) _) rfl ?_
      refine WL_nil ?_
      refine nrm ?_
      refine WC_ret ?_
      refine rtE ?_
      exact gv1 rfl rfl h
  · rw [if_neg (of_decide_eq_false hb6)] at h
    refine WL_skip (gdN (b := (decide (0 ≤ i4))) 7 rfl rfl hb6) rfl ?_
    refine WL_skip (gdN (b := (decide (0 ≤ i4))) 7 rfl rfl hb6) rfl ?_
    refine WL_skip (gdN (b := (decide (0 ≤ i4))) 7 rfl rfl hb6) rfl ?_
    refine WL_skip (gdN (b := (decide (0 ≤ i4))) 7 rfl rfl hb6) rfl ?_
    refine WL_val gd0 ((o_pickF (v := .bool false) rfl hb6 rfl) _) rfl ?_
    refine WL_val gd0 ((o_move (v := .bool false) rfl) _) rfl ?_
    refine WL_skip (gdN (b := false) 13 rfl rfl rfl) rfl ?_
    refine WL_skip (gdN (b := false) 13 rfl rfl rfl) rfl ?_
    refine WL_skip (gdN (b := false) 13 rfl rfl rfl) rfl ?_
    refine WL_skip (gdN (b := false) 13 rfl rfl rfl) rfl ?_
    refine WL_val gd0 ((o_pickF (v := .bool false) rfl rfl rfl) _) rfl ?_
    refine WL_val gd0 ((o_assign (v := .bool false) rfl) _) rfl ?_
    refine WL_nil ?_
    refine nrm ?_
    refine WC_ret ?_
    refine rtE ?_
    exact gv1 rfl rfl h

def F10_j2 (u1 : Option Addr) (w27 : World) (k : Value → World → Prop) : Prop :=
  Does Try.prog 23 #[.pointer u1] w27 (fun v w28 => ∃ (t_a29 : Option Addr) (t_n30 t_c31 : Nat), v = .slice t_a29 t_n30 t_c31 ∧ k (.slice t_a29 t_n30 t_c31) w28)
def F10_j1 (p9 : Addr) (data_a4 : Option Addr) (data_n5 : Nat) (data_c6 : Nat) (u1 : Option Addr) (first3 : Int) (w25 : World) (k : Value → World → Prop) : Prop :=
  ∃ (t32 : Bool), w25.cell? (p9.add 2) = some (.bool t32) ∧ if t32 = true then
  ∃ (x_a35 : Option Addr) (x_n36 x_c37 : Nat), w25.cell? (p9.add 5) = some (.slice x_a35 x_n36 x_c37) ∧ New w25 29 [.slice x_a35 x_n36 x_c37, .slice data_a4 data_n5 data_c6] (fun p39 w40 => Does Try.prog 21 #[.slice (some p39) 2 2] w40 (fun v w41 => ∃ (x_a42 : Option Addr) (x_n43 x_c44 : Nat), v = .slice x_a42 x_n43 x_c44 ∧ Put w41 (p9.add 5) (.slice x_a42 x_n43 x_c44) (fun w45 => F10_j2 u1 w45 k)))
else
  if first3 = 2047 then
    Put w25 (p9.add 5) (.slice none 0 0) (fun w48 => k (.slice none 0 0) w48)
  else
    (0 : Int) ≤ first3 ∧ first3 ≤ (data_n5 : Int) ∧ Does Try.prog 22 #[.slice (cutA data_a4 data_c6 first3.toNat 1) (data_n5 - first3.toNat) (data_c6 - first3.toNat)] w25 (fun v w52 => ∃ (x_a53 : Option Addr) (x_n54 x_c55 : Nat), v = .slice x_a53 x_n54 x_c55 ∧ Put w52 (p9.add 5) (.slice x_a53 x_n54 x_c55) (fun w56 => Put w56 (p9.add 2) (.bool true) (fun w58 => F10_j2 u1 w58 k)))
def F10_j4 (u1 : Option Addr) (w82 : World) (k : Value → World → Prop) : Prop :=
  Does Try.prog 23 #[.pointer u1] w82 (fun v w83 => ∃ (t_a84 : Option Addr) (t_n85 t_c86 : Nat), v = .slice t_a84 t_n85 t_c86 ∧ k (.slice t_a84 t_n85 t_c86) w83)
def F10_j3 (p9 : Addr) (data_a4 : Option Addr) (data_n5 : Nat) (data_c6 : Nat) (u1 : Option Addr) (first3 : Int) (w80 : World) (k : Value → World → Prop) : Prop :=
  ∃ (t87 : Bool), w80.cell? (p9.add 2) = some (.bool t87) ∧ if t87 = true then
  ∃ (x_a90 : Option Addr) (x_n91 x_c92 : Nat), w80.cell? (p9.add 5) = some (.slice x_a90 x_n91 x_c92) ∧ New w80 29 [.slice x_a90 x_n91 x_c92, .slice data_a4 data_n5 data_c6] (fun p94 w95 => Does Try.prog 21 #[.slice (some p94) 2 2] w95 (fun v w96 => ∃ (x_a97 : Option Addr) (x_n98 x_c99 : Nat), v = .slice x_a97 x_n98 x_c99 ∧ Put w96 (p9.add 5) (.slice x_a97 x_n98 x_c99) (fun w100 => F10_j4 u1 w100 k)))
else
  if first3 = 2047 then
    Put w80 (p9.add 5) (.slice none 0 0) (fun w103 => k (.slice none 0 0) w103)
  else
    (0 : Int) ≤ first3 ∧ first3 ≤ (data_n5 : Int) ∧ Does Try.prog 22 #[.slice (cutA data_a4 data_c6 first3.toNat 1) (data_n5 - first3.toNat) (data_c6 - first3.toNat)] w80 (fun v w107 => ∃ (x_a108 : Option Addr) (x_n109 x_c110 : Nat), v = .slice x_a108 x_n109 x_c110 ∧ Put w107 (p9.add 5) (.slice x_a108 x_n109 x_c110) (fun w111 => Put w111 (p9.add 2) (.bool true) (fun w113 => F10_j4 u1 w113 k)))
def F10_j6 (u1 : Option Addr) (w137 : World) (k : Value → World → Prop) : Prop :=
  Does Try.prog 23 #[.pointer u1] w137 (fun v w138 => ∃ (t_a139 : Option Addr) (t_n140 t_c141 : Nat), v = .slice t_a139 t_n140 t_c141 ∧ k (.slice t_a139 t_n140 t_c141) w138)
def F10_j5 (p9 : Addr) (data_a4 : Option Addr) (data_n5 : Nat) (data_c6 : Nat) (u1 : Option Addr) (first3 : Int) (w135 : World) (k : Value → World → Prop) : Prop :=
  ∃ (t142 : Bool), w135.cell? (p9.add 2) = some (.bool t142) ∧ if t142 = true then
  ∃ (x_a145 : Option Addr) (x_n146 x_c147 : Nat), w135.cell? (p9.add 5) = some (.slice x_a145 x_n146 x_c147) ∧ New w135 29 [.slice x_a145 x_n146 x_c147, .slice data_a4 data_n5 data_c6] (fun p149 w150 => Does Try.prog 21 #[.slice (some p149) 2 2] w150 (fun v w151 => ∃ (x_a152 : Option Addr) (x_n153 x_c154 : Nat), v = .slice x_a152 x_n153 x_c154 ∧ Put w151 (p9.add 5) (.slice x_a152 x_n153 x_c154) (fun w155 => F10_j6 u1 w155 k)))
else
  if first3 = 2047 then
    Put w135 (p9.add 5) (.slice none 0 0) (fun w158 => k (.slice none 0 0) w158)
  else
    (0 : Int) ≤ first3 ∧ first3 ≤ (data_n5 : Int) ∧ Does Try.prog 22 #[.slice (cutA data_a4 data_c6 first3.toNat 1) (data_n5 - first3.toNat) (data_c6 - first3.toNat)] w135 (fun v w162 => ∃ (x_a163 : Option Addr) (x_n164 x_c165 : Nat), v = .slice x_a163 x_n164 x_c165 ∧ Put w162 (p9.add 5) (.slice x_a163 x_n164 x_c165) (fun w166 => Put w166 (p9.add 2) (.bool true) (fun w168 => F10_j6 u1 w168 k)))
/-- (*spacecraft unpacker.Unpacker).Take -/
def F10 (u1 : Option Addr) (count2 : Int) (first3 : Int) (data_a4 : Option Addr) (data_n5 : Nat) (data_c6 : Nat) (w7 : World) (k : Value → World → Prop) : Prop :=
  if (u1).isNone = true then
  k (.slice none 0 0) w7
else
  ∃ (p9 : Addr), u1 = some p9 ∧ ∃ (x11 : Bool), w7.cell? p9 = some (.bool x11) ∧ if (!x11) = true then
    k (.slice none 0 0) w7
  else
    if count2 < 0 then
      k (.slice none 0 0) w7
    else
      if 255 < count2 then
        k (.slice none 0 0) w7
      else
        if first3 ≠ 2047 then
          if first3 ≠ 2046 then
            if first3 < 0 then
              k (.slice none 0 0) w7
            else
              if (data_n5 : Int) ≤ first3 then
                k (.slice none 0 0) w7
              else
                Does Try.prog 19 #[.pointer u1, .int .i64 count2] w7 (fun v w20 => v = .tuple #[] ∧ if first3 = 2046 then
                  k (.slice none 0 0) w20
                else
                  ∃ (x60 : Bool), w20.cell? (p9.add 2) = some (.bool x60) ∧ if x60 = true then
                    ∃ (x_a63 : Option Addr) (x_n64 x_c65 : Nat), w20.cell? (p9.add 5) = some (.slice x_a63 x_n64 x_c65) ∧ Does Try.prog 20 #[.slice x_a63 x_n64 x_c65, .slice data_a4 data_n5 data_c6] w20 (fun v w67 => ∃ (r68 : Int) (r69 : Bool), v = .tuple #[.int .i64 r68, .bool r69] ∧ if r69 = true then
                      Put w67 (p9.add 2) (.bool (decide (r68 = first3))) (fun w71 => F10_j1 p9 data_a4 data_n5 data_c6 u1 first3 w71 k)
                    else
                      Put w67 (p9.add 2) (.bool false) (fun w73 => F10_j1 p9 data_a4 data_n5 data_c6 u1 first3 w73 k))
                  else
                    F10_j1 p9 data_a4 data_n5 data_c6 u1 first3 w20 k)
          else
            Does Try.prog 19 #[.pointer u1, .int .i64 count2] w7 (fun v w75 => v = .tuple #[] ∧ if first3 = 2046 then
              k (.slice none 0 0) w75
            else
              ∃ (x115 : Bool), w75.cell? (p9.add 2) = some (.bool x115) ∧ if x115 = true then
                ∃ (x_a118 : Option Addr) (x_n119 x_c120 : Nat), w75.cell? (p9.add 5) = some (.slice x_a118 x_n119 x_c120) ∧ Does Try.prog 20 #[.slice x_a118 x_n119 x_c120, .slice data_a4 data_n5 data_c6] w75 (fun v w122 => ∃ (r123 : Int) (r124 : Bool), v = .tuple #[.int .i64 r123, .bool r124] ∧ if r124 = true then
                  Put w122 (p9.add 2) (.bool (decide (r123 = first3))) (fun w126 => F10_j3 p9 data_a4 data_n5 data_c6 u1 first3 w126 k)
                else
                  Put w122 (p9.add 2) (.bool false) (fun w128 => F10_j3 p9 data_a4 data_n5 data_c6 u1 first3 w128 k))
              else
                F10_j3 p9 data_a4 data_n5 data_c6 u1 first3 w75 k)
        else
          Does Try.prog 19 #[.pointer u1, .int .i64 count2] w7 (fun v w130 => v = .tuple #[] ∧ if first3 = 2046 then
            k (.slice none 0 0) w130
          else
            ∃ (x170 : Bool), w130.cell? (p9.add 2) = some (.bool x170) ∧ if x170 = true then
              ∃ (x_a173 : Option Addr) (x_n174 x_c175 : Nat), w130.cell? (p9.add 5) = some (.slice x_a173 x_n174 x_c175) ∧ Does Try.prog 20 #[.slice x_a173 x_n174 x_c175, .slice data_a4 data_n5 data_c6] w130 (fun v w177 => ∃ (r178 : Int) (r179 : Bool), v = .tuple #[.int .i64 r178, .bool r179] ∧ if r179 = true then
                Put w177 (p9.add 2) (.bool (decide (r178 = first3))) (fun w181 => F10_j5 p9 data_a4 data_n5 data_c6 u1 first3 w181 k)
              else
                Put w177 (p9.add 2) (.bool false) (fun w183 => F10_j5 p9 data_a4 data_n5 data_c6 u1 first3 w183 k))
            else
              F10_j5 p9 data_a4 data_n5 data_c6 u1 first3 w130 k)
set_option maxRecDepth 100000 in
set_option maxHeartbeats 2000000 in
theorem w10 (u1 : Option Addr) (count2 : Int) (first3 : Int) (data_a4 : Option Addr) (data_n5 : Nat) (data_c6 : Nat) (w7 : World) (k : Value → World → Prop) (h : F10 u1 count2 first3 data_a4 data_n5 data_c6 w7 k) : Does Try.prog 10 #[.pointer u1, .int .i64 count2, .int .i64 first3, .slice data_a4 data_n5 data_c6] w7 k := by
  refine enter 104 Try.func10 rfl rfl rfl ?_
  intro ρ hρ
  have e0 := hρ 0 _ rfl
  have e1 := hρ 1 _ rfl
  have e2 := hρ 2 _ rfl
  have e3 := hρ 3 _ rfl
  unfold F10 at h
  refine WC_seq ?_
  refine WC_region ?_
  refine WL_val gd0 ((o_assign (v := .slice none 0 0) rfl) _) rfl ?_
  refine WL_nil ?_
  refine nrm ?_
  refine WC_seq ?_
  refine WC_seq ?_
  refine WC_region ?_
  refine WL_val gd0 ((o_move (v := .pointer u1) (by exact e0)) _) rfl ?_
  refine WL_val gd0 ((o_eqlPtrNil Try.underlying26 rfl rfl) _) rfl ?_
  refine WL_val gd0 ((o_move (v := .bool ((u1).isNone)) rfl) _) rfl ?_
  refine bsplit ((u1).isNone) (fun hb8 => ?_) (fun hb8 => ?_)
  · rw [if_pos hb8] at h
    refine WL_skip (gdN (b := ((u1).isNone)) 13 rfl rfl hb8) rfl ?_
    refine WL_skip (gdN (b := ((u1).isNone)) 13 rfl rfl hb8) rfl ?_
    refine WL_skip (gdN (b := ((u1).isNone)) 13 rfl rfl hb8) rfl ?_
    refine WL_skip (gdN (b := ((u1).isNone)) 13 rfl rfl hb8) rfl ?_
    refine WL_skip (gdN (b := ((u1).isNone)) 13 rfl rfl hb8) rfl ?_
    refine WL_val gd0 ((o_pickT (v := .bool true) rfl hb8 rfl) _) rfl ?_
    refine WL_val gd0 ((o_move (v := .bool true) rfl) _) rfl ?_
    refine WL_skip (gdN (b := true) 20 rfl rfl rfl) rfl ?_
    refine WL_skip (gdN (b := true) 20 rfl rfl rfl) rfl ?_
    refine WL_val gd0 ((o_pickT (v := .bool true) rfl rfl rfl) _) rfl ?_
    refine WL_val gd0 ((o_move (v := .bool true) rfl) _) rfl ?_
    refine WL_skip (gdN (b := true) 24 rfl rfl rfl) rfl ?_
    refine WL_skip (gdN (b := true) 24 rfl rfl rfl) rfl ?_
    refine WL_val gd0 ((o_pickT (v := .bool true) rfl rfl rfl) _) rfl ?_
    refine WL_nil ?_
    refine nrm ?_
    refine WC_cond (t := true) rfl (fun _ => ?_) (fun hx => by rw [(rfl : true = true)] at hx; cases hx)
    refine WC_seq ?_
    refine WC_region ?_
    refine WL_val gd0 ((o_assign (v := .slice none 0 0) rfl) _) rfl ?_
    refine WL_nil ?_
    refine nrm ?_
    refine WC_ret ?_
    refine rtT ?_
    refine rtE ?_
    exact gv1 rfl rfl h
  · rw [if_neg (neT hb8)] at h
    refine WL_val (gdY (b := ((u1).isNone)) 13 rfl rfl hb8) ((o_move (v := .pointer u1) (by exact e0)) _) rfl ?_
    obtain ⟨p9, q10, h⟩ := h
    refine WL_val (gdY (b := ((u1).isNone)) 13 rfl rfl hb8) ((o_nilCheck (by exact (congrArg Value.pointer q10))) _) rfl ?_
    refine WL_val (gdY (b := ((u1).isNone)) 13 rfl rfl hb8) ((o_fieldAddr0 Try.underlying45 rfl Try.sizeOf4 rfl rfl rfl) _) rfl ?_
    obtain ⟨x11, hc12, h⟩ := h
    refine WL_val (gdY (b := ((u1).isNone)) 13 rfl rfl hb8) (o_load Try.isAgg4 rfl hc12) rfl ?_
    refine WL_val (gdY (b := ((u1).isNone)) 13 rfl rfl hb8) ((o_not rfl) _) rfl ?_
    refine WL_val gd0 ((o_pickF (v := .bool (!x11)) rfl hb8 rfl) _) rfl ?_
    refine WL_val gd0 ((o_move (v := .bool (!x11)) rfl) _) rfl ?_
    refine bsplit (!x11) (fun hb13 => ?_) (fun hb13 => ?_)
    · rw [if_pos hb13] at h
      refine WL_skip (gdN (b := (!x11)) 20 rfl rfl hb13) rfl ?_
      refine WL_skip (gdN (b := (!x11)) 20 rfl rfl hb13) rfl ?_
      refine WL_val gd0 ((o_pickT (v := .bool true) rfl hb13 rfl) _) rfl ?_
      refine WL_val gd0 ((o_move (v := .bool true) rfl) _) rfl ?_
      refine WL_skip (gdN (b := true) 24 rfl rfl rfl) rfl ?_
      refine WL_skip (gdN (b := true) 24 rfl rfl rfl) rfl ?_
      refine WL_val gd0 ((o_pickT (v := .bool true) rfl rfl rfl) _) rfl ?_
      refine WL_nil ?_
      refine nrm ?_
      refine WC_cond (t := true) rfl (fun _ => ?_) (fun hx => by rw [(rfl : true = true)] at hx; cases hx)
      refine WC_seq ?_
      refine WC_region ?_
      refine WL_val gd0 ((o_assign (v := .slice none 0 0) rfl) _) rfl ?_
      refine WL_nil ?_
      refine nrm ?_
      refine WC_ret ?_
      refine rtT ?_
      refine rtE ?_
      exact gv1 rfl rfl h
    · rw [if_neg (neT hb13)] at h
      refine WL_val (gdY (b := (!x11)) 20 rfl rfl hb13) ((o_move (v := .int .i64 count2) (by exact e1)) _) rfl ?_
      refine WL_val (gdY (b := (!x11)) 20 rfl rfl hb13) ((o_lss rfl rfl) _) rfl ?_
      refine WL_val gd0 ((o_pickF (v := .bool (decide (count2 < 0))) rfl hb13 rfl) _) rfl ?_
      refine WL_val gd0 ((o_move (v := .bool (decide (count2 < 0))) rfl) _) rfl ?_
      refine bsplit (decide (count2 < 0)) (fun hb14 => ?_) (fun hb14 => ?_)
      · rw [if_pos (of_decide_eq_true hb14)] at h
        refine WL_skip (gdN (b := (decide (count2 < 0))) 24 rfl rfl hb14) rfl ?_
        refine WL_skip (gdN (b := (decide (count2 < 0))) 24 rfl rfl hb14) rfl ?_
        refine WL_val gd0 ((o_pickT (v := .bool true) rfl hb14 rfl) _) rfl ?_
        refine WL_nil ?_
        refine nrm ?_
        refine WC_cond (t := true) rfl (fun _ => ?_) (fun hx => by rw [(rfl : true = true)] at hx; cases hx)
        refine WC_seq ?_
        refine WC_region ?_
        refine WL_val gd0 ((o_assign (v := .slice none 0 0) rfl) _) rfl ?_
        refine WL_nil ?_
        refine nrm ?_
        refine WC_ret ?_
        refine rtT ?_
        refine rtE ?_
        exact gv1 rfl rfl h
      · rw [if_neg (of_decide_eq_false hb14)] at h
        refine WL_val (gdY (b := (decide (count2 < 0))) 24 rfl rfl hb14) ((o_move (v := .int .i64 count2) (by exact e1)) _) rfl ?_
        refine WL_val (gdY (b := (decide (count2 < 0))) 24 rfl rfl hb14) ((o_gtr rfl rfl) _) rfl ?_
        refine WL_val gd0 ((o_pickF (v := .bool (decide (255 < count2))) rfl hb14 rfl) _) rfl ?_
        refine WL_nil ?_
        refine nrm ?_
        refine WC_cond (t := (decide (255 < count2))) rfl (fun hb15 => ?_) (fun hb15 => ?_)
        · rw [if_pos (of_decide_eq_true hb15)] at h
          refine WC_seq ?_
          refine WC_region ?_
          refine WL_val gd0 ((o_assign (v := .slice none 0 0) rfl) _) rfl ?_
          refine WL_nil ?_
          refine nrm ?_
          refine WC_ret ?_
          refine rtT ?_
          refine rtE ?_
          exact gv1 rfl rfl h
        · rw [if_neg (of_decide_eq_false hb15)] at h
          refine WC_skip ?_
          refine nrm ?_
          refine WC_seq ?_
          refine WC_seq ?_
          refine WC_region ?_
          refine WL_val gd0 ((o_move (v := .int .i64 first3) (by exact e2)) _) rfl ?_
          refine WL_val gd0 ((o_neq rfl rfl) _) rfl ?_
          refine WL_val gd0 ((o_move (v := .bool (decide (first3 ≠ 2047))) rfl) _) rfl ?_
          refine bsplit (decide (first3 ≠ 2047)) (fun hb16 => ?_) (fun hb16 => ?_)
          · rw [if_pos (of_decide_eq_true hb16)] at h
            refine WL_val (gdY (b := (decide (first3 ≠ 2047))) 30 rfl rfl hb16) ((o_move (v := .int .i64 first3) (by exact e2)) _) rfl ?_
            refine WL_val (gdY (b := (decide (first3 ≠ 2047))) 30 rfl rfl hb16) ((o_neq rfl rfl) _) rfl ?_
            refine WL_val gd0 ((o_pickT (v := .bool (decide (first3 ≠ 2046))) rfl hb16 rfl) _) rfl ?_
            refine WL_val gd0 ((o_move (v := .bool (decide (first3 ≠ 2046))) rfl) _) rfl ?_
            refine bsplit (decide (first3 ≠ 2046)) (fun hb17 => ?_) (fun hb17 => ?_)
            · rw [if_pos (of_decide_eq_true hb17)] at h
              refine WL_val (gdY (b := (decide (first3 ≠ 2046))) 34 rfl rfl hb17) ((o_move (v := .int .i64 first3) (by exact e2)) _) rfl ?_
              refine WL_val (gdY (b := (decide (first3 ≠ 2046))) 34 rfl rfl hb17) ((o_lss rfl rfl) _) rfl ?_
              refine WL_val (gdY (b := (decide (first3 ≠ 2046))) 34 rfl rfl hb17) ((o_move (v := .bool (decide (first3 < 0))) rfl) _) rfl ?_
              refine bsplit (decide (first3 < 0)) (fun hb18 => ?_) (fun hb18 => ?_)
              · rw [if_pos (of_decide_eq_true hb18)] at h
                refine WL_skip (gdN (b := (decide (first3 < 0))) 37 rfl rfl hb18) rfl ?_
                refine WL_skip (gdN (b := (decide (first3 < 0))) 37 rfl rfl hb18) rfl ?_
                refine WL_skip (gdN (b := (decide (first3 < 0))) 37 rfl rfl hb18) rfl ?_
                refine WL_skip (gdN (b := (decide (first3 < 0))) 37 rfl rfl hb18) rfl ?_
                refine WL_val (gdY (b := (decide (first3 ≠ 2046))) 34 rfl rfl hb17) ((o_pickT (v := .bool true) rfl hb18 rfl) _) rfl ?_
                refine WL_val gd0 ((o_pickT (v := .bool true) rfl hb17 rfl) _) rfl ?_
                refine WL_nil ?_
                refine nrm ?_
                refine WC_cond (t := true) rfl (fun _ => ?_) (fun hx => by rw [(rfl : true = true)] at hx; cases hx)
                refine WC_seq ?_
                refine WC_region ?_
                refine WL_val gd0 ((o_assign (v := .slice none 0 0) rfl) _) rfl ?_
                refine WL_nil ?_
                refine nrm ?_
                refine WC_ret ?_
                refine rtT ?_
                refine rtE ?_
                exact gv1 rfl rfl h
              · rw [if_neg (of_decide_eq_false hb18)] at h
                refine WL_val (gdY (b := (decide (first3 < 0))) 37 rfl rfl hb18) ((o_move (v := .int .i64 first3) (by exact e2)) _) rfl ?_
                refine WL_val (gdY (b := (decide (first3 < 0))) 37 rfl rfl hb18) ((o_move (v := .slice data_a4 data_n5 data_c6) (by exact e3)) _) rfl ?_
                refine WL_val (gdY (b := (decide (first3 < 0))) 37 rfl rfl hb18) ((o_len Try.underlying29 rfl) _) rfl ?_
                refine WL_val (gdY (b := (decide (first3 < 0))) 37 rfl rfl hb18) ((o_geq rfl rfl) _) rfl ?_
                refine WL_val (gdY (b := (decide (first3 ≠ 2046))) 34 rfl rfl hb17) ((o_pickF (v := .bool (decide ((data_n5 : Int) ≤ first3))) rfl hb18 rfl) _) rfl ?_
                refine WL_val gd0 ((o_pickT (v := .bool (decide ((data_n5 : Int) ≤ first3))) rfl hb17 rfl) _) rfl ?_
                refine WL_nil ?_
                refine nrm ?_
                refine WC_cond (t := (decide ((data_n5 : Int) ≤ first3))) rfl (fun hb19 => ?_) (fun hb19 => ?_)
                · rw [if_pos (of_decide_eq_true hb19)] at h
                  refine WC_seq ?_
                  refine WC_region ?_
                  refine WL_val gd0 ((o_assign (v := .slice none 0 0) rfl) _) rfl ?_
                  refine WL_nil ?_
                  refine nrm ?_
                  refine WC_ret ?_
                  refine rtT ?_
                  refine rtE ?_
                  exact gv1 rfl rfl h
                · rw [if_neg (of_decide_eq_false hb19)] at h
                  refine WC_skip ?_
                  refine nrm ?_
                  refine WC_seq ?_
                  refine WC_region ?_
                  refine WL_val gd0 ((o_move (v := .pointer u1) (by exact e0)) _) rfl ?_
                  refine WL_val gd0 ((o_move (v := .int .i64 count2) (by exact e1)) _) rfl ?_
                  refine WL_call gd0 (o_call Try.call19 (argCons rfl (argCons rfl argNil)) _) rfl (h.mono ?_)
                  rintro _ w20 ⟨rfl, h⟩
                  refine WL_nil ?_
                  refine nrm ?_
                  refine WC_seq ?_
                  refine WC_seq ?_
                  refine WC_region ?_
                  refine WL_val gd0 ((o_move (v := .int .i64 first3) (by exact e2)) _) rfl ?_
                  refine WL_val gd0 ((o_eql rfl rfl) _) rfl ?_
                  refine WL_nil ?_
                  refine nrm ?_
                  refine WC_cond (t := (decide (first3 = 2046))) rfl (fun hb21 => ?_) (fun hb21 => ?_)
                  · rw [if_pos (of_decide_eq_true hb21)] at h
                    refine WC_seq ?_
                    refine WC_region ?_
                    refine WL_val gd0 ((o_assign (v := .slice none 0 0) rfl) _) rfl ?_
                    refine WL_nil ?_
                    refine nrm ?_
                    refine WC_ret ?_
                    refine rtT ?_
                    refine rtE ?_
                    exact gv1 rfl rfl h
                  · rw [if_neg (of_decide_eq_false hb21)] at h
                    refine WC_skip ?_
                    refine nrm ?_
                    refine WC_cut (fun ρ w' => ρ 0 = .pointer u1 ∧ ρ 2 = .int .i64 first3 ∧ ρ 3 = .slice data_a4 data_n5 data_c6 ∧ F10_j1 p9 data_a4 data_n5 data_c6 u1 first3 w' k) ?_ ?_
                    · refine WC_seq ?_
                      refine WC_region ?_
                      refine WL_val gd0 ((o_move (v := .pointer u1) (by exact e0)) _) rfl ?_
                      refine WL_val gd0 ((o_nilCheck (by exact (congrArg Value.pointer q10))) _) rfl ?_
                      refine WL_val gd0 ((o_fieldAddr 2 Try.underlying45 rfl Try.sizeOf4 rfl rfl rfl) _) rfl ?_
                      obtain ⟨x60, hc61, h⟩ := h
                      refine WL_val gd0 (o_load Try.isAgg4 rfl hc61) rfl ?_
                      refine WL_nil ?_
                      refine nrm ?_
                      refine WC_cond (t := x60) rfl (fun hb62 => ?_) (fun hb62 => ?_)
                      · rw [if_pos hb62] at h
                        refine WC_seq ?_
                        refine WC_region ?_
                        refine WL_val gd0 ((o_move (v := .pointer u1) (by exact e0)) _) rfl ?_
                        refine WL_val gd0 ((o_nilCheck (by exact (congrArg Value.pointer q10))) _) rfl ?_
                        refine WL_val gd0 ((o_fieldAddr 5 Try.underlying45 rfl Try.sizeOf29 rfl rfl rfl) _) rfl ?_
                        obtain ⟨x_a63, x_n64, x_c65, hc66, h⟩ := h
                        refine WL_val gd0 (o_load Try.isAgg29 rfl hc66) rfl ?_
                        refine WL_val gd0 ((o_move (v := .slice data_a4 data_n5 data_c6) (by exact e3)) _) rfl ?_
                        refine WL_call gd0 (o_call Try.call20 (argCons rfl (argCons rfl argNil)) _) rfl (h.mono ?_)
                        rintro _ w67 ⟨r68, r69, rfl, h⟩
                        refine WL_val gd0 ((o_move (v := .tuple #[.int .i64 r68, .bool r69]) rfl) _) rfl ?_
                        refine WL_val gd0 ((o_extract (vs := [.int .i64 r68, .bool r69]) (r := .int .i64 r68) rfl rfl) _) rfl ?_
                        refine WL_val gd0 ((o_extract (vs := [.int .i64 r68, .bool r69]) (r := .bool r69) rfl rfl) _) rfl ?_
                        refine WL_val gd0 ((o_assign (v := .int .i64 r68) rfl) _) rfl ?_
                        refine WL_val gd0 ((o_assign (v := .bool r69) rfl) _) rfl ?_
                        refine WL_nil ?_
                        refine nrm ?_
                        refine WC_region ?_
                        refine WL_val gd0 ((o_move (v := .pointer u1) (by exact e0)) _) rfl ?_
                        refine WL_val gd0 ((o_move (v := .bool r69) rfl) _) rfl ?_
                        refine WL_val gd0 ((o_move (v := .bool r69) rfl) _) rfl ?_
                        refine bsplit r69 (fun hb70 => ?_) (fun hb70 => ?_)
                        · rw [if_pos hb70] at h
                          refine WL_val (gdY (b := r69) 64 rfl rfl hb70) ((o_move (v := .int .i64 r68) rfl) _) rfl ?_
                          refine WL_val (gdY (b := r69) 64 rfl rfl hb70) ((o_move (v := .int .i64 first3) (by exact e2)) _) rfl ?_
                          refine WL_val (gdY (b := r69) 64 rfl rfl hb70) ((o_eql rfl rfl) _) rfl ?_
                          refine WL_val gd0 ((o_pickT (v := .bool (decide (r68 = first3))) rfl hb70 rfl) _) rfl ?_
                          refine WL_val gd0 ((o_nilCheck (by exact (congrArg Value.pointer q10))) _) rfl ?_
                          refine WL_val gd0 ((o_fieldAddr 2 Try.underlying45 rfl Try.sizeOf4 rfl rfl rfl) _) rfl ?_
                          obtain ⟨c72, h⟩ := h
                          refine WL_act gd0 (o_store (v := .bool (decide (r68 = first3))) Try.sizeOf4 rfl rfl rfl c72) ?_
                          generalize hw71 : World.setCell w67 (p9.add 2) (.bool (decide (r68 = first3))) = w71 at h ⊢
                          try dsimp only at h
                          refine WL_nil ?_
                          refine nrm ?_
                          exact ⟨e0, e2, e3, h⟩
                        · rw [if_neg (neT hb70)] at h
                          refine WL_skip (gdN (b := r69) 64 rfl rfl hb70) rfl ?_
                          refine WL_skip (gdN (b := r69) 64 rfl rfl hb70) rfl ?_
                          refine WL_skip (gdN (b := r69) 64 rfl rfl hb70) rfl ?_
                          refine WL_val gd0 ((o_pickF (v := .bool false) rfl hb70 rfl) _) rfl ?_
                          refine WL_val gd0 ((o_nilCheck (by exact (congrArg Value.pointer q10))) _) rfl ?_
                          refine WL_val gd0 ((o_fieldAddr 2 Try.underlying45 rfl Try.sizeOf4 rfl rfl rfl) _) rfl ?_
                          obtain ⟨c74, h⟩ := h
                          refine WL_act gd0 (o_store (v := .bool false) Try.sizeOf4 rfl rfl rfl c74) ?_
                          generalize hw73 : World.setCell w67 (p9.add 2) (.bool false) = w73 at h ⊢
                          try dsimp only at h
                          refine WL_nil ?_
                          refine nrm ?_
                          exact ⟨e0, e2, e3, h⟩
                      · rw [if_neg (neT hb62)] at h
                        refine WC_skip ?_
                        refine nrm ?_
                        exact ⟨e0, e2, e3, h⟩
                    · rintro ρ w25 ⟨e0_22, e2_23, e3_24, h⟩
                      unfold F10_j1 at h
                      refine WC_cut (fun ρ w' => ρ 0 = .pointer u1 ∧ F10_j2 u1 w' k) ?_ ?_
                      · refine WC_block ?_
                        refine WC_seq ?_
                        refine WC_region ?_
                        refine WL_val gd0 ((o_move (v := .pointer u1) (by exact e0_22)) _) rfl ?_
                        refine WL_val gd0 ((o_nilCheck (by exact (congrArg Value.pointer q10))) _) rfl ?_
                        refine WL_val gd0 ((o_fieldAddr 2 Try.underlying45 rfl Try.sizeOf4 rfl rfl rfl) _) rfl ?_
                        obtain ⟨t32, hc33, h⟩ := h
                        refine WL_val gd0 (o_load Try.isAgg4 rfl hc33) rfl ?_
                        refine WL_val gd0 ((o_assign (v := .bool t32) rfl) _) rfl ?_
                        refine WL_nil ?_
                        refine nrm ?_
                        refine WC_cond (t := t32) rfl (fun hb34 => ?_) (fun hb34 => ?_)
                        · rw [if_pos hb34] at h
                          refine WC_region ?_
                          refine WL_val gd0 ((o_move (v := .pointer u1) (by exact e0_22)) _) rfl ?_
                          refine WL_val gd0 ((o_move (v := .pointer u1) (by exact e0_22)) _) rfl ?_
                          refine WL_val gd0 ((o_nilCheck (by exact (congrArg Value.pointer q10))) _) rfl ?_
                          refine WL_val gd0 ((o_fieldAddr 5 Try.underlying45 rfl Try.sizeOf29 rfl rfl rfl) _) rfl ?_
                          obtain ⟨x_a35, x_n36, x_c37, hc38, h⟩ := h
                          refine WL_val gd0 (o_load Try.isAgg29 rfl hc38) rfl ?_
                          refine WL_val gd0 ((o_move (v := .slice data_a4 data_n5 data_c6) (by exact e3_24)) _) rfl ?_
                          have h := New.out h
                          refine WL_val gd0 (o_buildSlice (e := 29) (ps := [(0, .slice x_a35 x_n36 x_c37), (1, .slice data_a4 data_n5 data_c6)]) (cs := [.slice x_a35 x_n36 x_c37, .slice data_a4 data_n5 data_c6]) (partCons rfl (partCons rfl partNil)) (fun w => by kernel_rfl)) rfl ?_
                          generalize hp39 : fresh w25 = p39 at h ⊢
                          generalize hw40 : push w25 29 [.slice x_a35 x_n36 x_c37, .slice data_a4 data_n5 data_c6] = w40 at h ⊢
                          try dsimp only at h
                          refine WL_call gd0 (o_call Try.call21 (argCons rfl argNil) _) rfl (h.mono ?_)
                          rintro _ w41 ⟨x_a42, x_n43, x_c44, rfl, h⟩
                          refine WL_val gd0 ((o_nilCheck (by exact (congrArg Value.pointer q10))) _) rfl ?_
                          refine WL_val gd0 ((o_fieldAddr 5 Try.underlying45 rfl Try.sizeOf29 rfl rfl rfl) _) rfl ?_
                          obtain ⟨c46, h⟩ := h
                          refine WL_act gd0 (o_store (v := .slice x_a42 x_n43 x_c44) Try.sizeOf29 rfl rfl rfl c46) ?_
                          generalize hw45 : World.setCell w41 (p9.add 5) (.slice x_a42 x_n43 x_c44) = w45 at h ⊢
                          try dsimp only at h
                          refine WL_nil ?_
                          refine nrmB ?_
                          refine nrm ?_
                          exact ⟨e0_22, h⟩
                        · rw [if_neg (neT hb34)] at h
                          refine WC_seq ?_
                          refine WC_region ?_
                          refine WL_val gd0 ((o_move (v := .int .i64 first3) (by exact e2_23)) _) rfl ?_
                          refine WL_val gd0 ((o_eql rfl rfl) _) rfl ?_
                          refine WL_val gd0 ((o_assign (v := .bool (decide (first3 = 2047))) rfl) _) rfl ?_
                          refine WL_nil ?_
                          refine nrm ?_
                          refine WC_cond (t := (decide (first3 = 2047))) rfl (fun hb47 => ?_) (fun hb47 => ?_)
                          · rw [if_pos (of_decide_eq_true hb47)] at h
                            refine WC_seq ?_
                            refine WC_region ?_
                            refine WL_val gd0 ((o_move (v := .pointer u1) (by exact e0_22)) _) rfl ?_
                            refine WL_val gd0 ((o_nilCheck (by exact (congrArg Value.pointer q10))) _) rfl ?_
                            refine WL_val gd0 ((o_fieldAddr 5 Try.underlying45 rfl Try.sizeOf29 rfl rfl rfl) _) rfl ?_
                            obtain ⟨c49, h⟩ := h
                            refine WL_act gd0 (o_store (v := .slice none 0 0) Try.sizeOf29 rfl rfl rfl c49) ?_
                            generalize hw48 : World.setCell w25 (p9.add 5) (.slice none 0 0) = w48 at h ⊢
                            try dsimp only at h
                            refine WL_nil ?_
                            refine nrm ?_
                            refine WC_seq ?_
                            refine WC_region ?_
                            refine WL_val gd0 ((o_assign (v := .slice none 0 0) rfl) _) rfl ?_
                            refine WL_nil ?_
                            refine nrm ?_
                            refine WC_ret ?_
                            refine rtB ?_
                            refine rtT ?_
                            refine rtE ?_
                            exact gv1 rfl rfl h
                          · rw [if_neg (of_decide_eq_false hb47)] at h
                            refine WC_region ?_
                            refine WL_val gd0 ((o_move (v := .pointer u1) (by exact e0_22)) _) rfl ?_
                            refine WL_val gd0 ((o_move (v := .pointer u1) (by exact e0_22)) _) rfl ?_
                            refine WL_val gd0 ((o_move (v := .slice data_a4 data_n5 data_c6) (by exact e3_24)) _) rfl ?_
                            refine WL_val gd0 ((o_move (v := .int .i64 first3) (by exact e2_23)) _) rfl ?_
                            obtain ⟨c50, c51, h⟩ := h
                            refine WL_val gd0 ((o_sliceL Try.underlying29 Try.sizeOf5 rfl rfl c50 c51) _) rfl ?_
                            refine WL_call gd0 (o_call Try.call22 (argCons rfl argNil) _) rfl (h.mono ?_)
                            rintro _ w52 ⟨x_a53, x_n54, x_c55, rfl, h⟩
                            refine WL_val gd0 ((o_nilCheck (by exact (congrArg Value.pointer q10))) _) rfl ?_
                            refine WL_val gd0 ((o_fieldAddr 5 Try.underlying45 rfl Try.sizeOf29 rfl rfl rfl) _) rfl ?_
                            obtain ⟨c57, h⟩ := h
                            refine WL_act gd0 (o_store (v := .slice x_a53 x_n54 x_c55) Try.sizeOf29 rfl rfl rfl c57) ?_
                            generalize hw56 : World.setCell w52 (p9.add 5) (.slice x_a53 x_n54 x_c55) = w56 at h ⊢
                            try dsimp only at h
                            refine WL_val gd0 ((o_nilCheck (by exact (congrArg Value.pointer q10))) _) rfl ?_
                            refine WL_val gd0 ((o_fieldAddr 2 Try.underlying45 rfl Try.sizeOf4 rfl rfl rfl) _) rfl ?_
                            obtain ⟨c59, h⟩ := h
                            refine WL_act gd0 (o_store (v := .bool true) Try.sizeOf4 rfl rfl rfl c59) ?_
                            generalize hw58 : World.setCell w56 (p9.add 2) (.bool true) = w58 at h ⊢
                            try dsimp only at h
                            refine WL_nil ?_
                            refine nrmB ?_
                            refine nrm ?_
                            exact ⟨e0_22, h⟩
                      · rintro ρ w27 ⟨e0_26, h⟩
                        unfold F10_j2 at h
                        refine WC_seq ?_
                        refine WC_region ?_
                        refine WL_val gd0 ((o_move (v := .pointer u1) (by exact e0_26)) _) rfl ?_
                        refine WL_call gd0 (o_call Try.call23 (argCons rfl argNil) _) rfl (h.mono ?_)
                        rintro _ w28 ⟨t_a29, t_n30, t_c31, rfl, h⟩
                        refine WL_val gd0 ((o_assign (v := .slice t_a29 t_n30 t_c31) rfl) _) rfl ?_
                        refine WL_nil ?_
                        refine nrm ?_
                        refine WC_ret ?_
                        refine rtE ?_
                        exact gv1 rfl rfl h
            · rw [if_neg (of_decide_eq_false hb17)] at h
              refine WL_skip (gdN (b := (decide (first3 ≠ 2046))) 34 rfl rfl hb17) rfl ?_
              refine WL_skip (gdN (b := (decide (first3 ≠ 2046))) 34 rfl rfl hb17) rfl ?_
              refine WL_skip (gdN (b := (decide (first3 ≠ 2046))) 34 rfl rfl hb17) rfl ?_
              refine WL_skip (gdU 37 rfl rfl) rfl ?_
              refine WL_skip (gdU 37 rfl rfl) rfl ?_
              refine WL_skip (gdU 37 rfl rfl) rfl ?_
              refine WL_skip (gdU 37 rfl rfl) rfl ?_
              refine WL_skip (gdN (b := (decide (first3 ≠ 2046))) 34 rfl rfl hb17) rfl ?_
              refine WL_val gd0 ((o_pickF (v := .bool false) rfl hb17 rfl) _) rfl ?_
              refine WL_nil ?_
              refine nrm ?_
              refine WC_cond (t := false) rfl (fun hx => by rw [(rfl : false = false)] at hx; cases hx) (fun _ => ?_)
              refine WC_skip ?_
              refine nrm ?_
              refine WC_seq ?_
              refine WC_region ?_
              refine WL_val gd0 ((o_move (v := .pointer u1) (by exact e0)) _) rfl ?_
              refine WL_val gd0 ((o_move (v := .int .i64 count2) (by exact e1)) _) rfl ?_
              refine WL_call gd0 (o_call Try.call19 (argCons rfl (argCons rfl argNil)) _) rfl (h.mono ?_)
              rintro _ w75 ⟨rfl, h⟩
              refine WL_nil ?_
              refine nrm ?_
              refine WC_seq ?_
              refine WC_seq ?_
              refine WC_region ?_
              refine WL_val gd0 ((o_move (v := .int .i64 first3) (by exact e2)) _) rfl ?_
              refine WL_val gd0 ((o_eql rfl rfl) _) rfl ?_
              refine WL_nil ?_
              refine nrm ?_
              refine WC_cond (t := (decide (first3 = 2046))) rfl (fun hb76 => ?_) (fun hb76 => ?_)
              · rw [if_pos (of_decide_eq_true hb76)] at h
                refine WC_seq ?_
                refine WC_region ?_
                refine WL_val gd0 ((o_assign (v := .slice none 0 0) rfl) _) rfl ?_
                refine WL_nil ?_
                refine nrm ?_
                refine WC_ret ?_
                refine rtT ?_
                refine rtE ?_
                exact gv1 rfl rfl h
              · rw [if_neg (of_decide_eq_false hb76)] at h
                refine WC_skip ?_
                refine nrm ?_
                refine WC_cut (fun ρ w' => ρ 0 = .pointer u1 ∧ ρ 2 = .int .i64 first3 ∧ ρ 3 = .slice data_a4 data_n5 data_c6 ∧ F10_j3 p9 data_a4 data_n5 data_c6 u1 first3 w' k) ?_ ?_
                · refine WC_seq ?_
                  refine WC_region ?_
                  refine WL_val gd0 ((o_move (v := .pointer u1) (by exact e0)) _) rfl ?_
                  refine WL_val gd0 ((o_nilCheck (by exact (congrArg Value.pointer q10))) _) rfl ?_
                  refine WL_val gd0 ((o_fieldAddr 2 Try.underlying45 rfl Try.sizeOf4 rfl rfl rfl) _) rfl ?_
                  obtain ⟨x115, hc116, h⟩ := h
                  refine WL_val gd0 (o_load Try.isAgg4 rfl hc116) rfl ?_
                  refine WL_nil ?_
                  refine nrm ?_
                  refine WC_cond (t := x115) rfl (fun hb117 => ?_) (fun hb117 => ?_)
                  · rw [if_pos hb117] at h
                    refine WC_seq ?_
                    refine WC_region ?_
                    refine WL_val gd0 ((o_move (v := .pointer u1) (by exact e0)) _) rfl ?_
                    refine WL_val gd0 ((o_nilCheck (by exact (congrArg Value.pointer q10))) _) rfl ?_
                    refine WL_val gd0 ((o_fieldAddr 5 Try.underlying45 rfl Try.sizeOf29 rfl rfl rfl) _) rfl ?_
                    obtain ⟨x_a118, x_n119, x_c120, hc121, h⟩ := h
                    refine WL_val gd0 (o_load Try.isAgg29 rfl hc121) rfl ?_
                    refine WL_val gd0 ((o_move (v := .slice data_a4 data_n5 data_c6) (by exact e3)) _) rfl ?_
                    refine WL_call gd0 (o_call Try.call20 (argCons rfl (argCons rfl argNil)) _) rfl (h.mono ?_)
                    rintro _ w122 ⟨r123, r124, rfl, h⟩
                    refine WL_val gd0 ((o_move (v := .tuple #[.int .i64 r123, .bool r124]) rfl) _) rfl ?_
                    refine WL_val gd0 ((o_extract (vs := [.int .i64 r123, .bool r124]) (r := .int .i64 r123) rfl rfl) _) rfl ?_
                    refine WL_val gd0 ((o_extract (vs := [.int .i64 r123, .bool r124]) (r := .bool r124) rfl rfl) _) rfl ?_
                    refine WL_val gd0 ((o_assign (v := .int .i64 r123) rfl) _) rfl ?_
                    refine WL_val gd0 ((o_assign (v := .bool r124) rfl) _) rfl ?_
                    refine WL_nil ?_
                    refine nrm ?_
                    refine WC_region ?_
                    refine WL_val gd0 ((o_move (v := .pointer u1) (by exact e0)) _) rfl ?_
                    refine WL_val gd0 ((o_move (v := .bool r124) rfl) _) rfl ?_
                    refine WL_val gd0 ((o_move (v := .bool r124) rfl) _) rfl ?_
                    refine bsplit r124 (fun hb125 => ?_) (fun hb125 => ?_)
                    · rw [if_pos hb125] at h
                      refine WL_val (gdY (b := r124) 64 rfl rfl hb125) ((o_move (v := .int .i64 r123) rfl) _) rfl ?_
                      refine WL_val (gdY (b := r124) 64 rfl rfl hb125) ((o_move (v := .int .i64 first3) (by exact e2)) _) rfl ?_
                      refine WL_val (gdY (b := r124) 64 rfl rfl hb125) ((o_eql rfl rfl) _) rfl ?_
                      refine WL_val gd0 ((o_pickT (v := .bool (decide (r123 = first3))) rfl hb125 rfl) _) rfl ?_
                      refine WL_val gd0 ((o_nilCheck (by exact (congrArg Value.pointer q10))) _) rfl ?_
                      refine WL_val gd0 ((o_fieldAddr 2 Try.underlying45 rfl Try.sizeOf4 rfl rfl rfl) _) rfl ?_
                      obtain ⟨c127, h⟩ := h
                      refine WL_act gd0 (o_store (v := .bool (decide (r123 = first3))) Try.sizeOf4 rfl rfl rfl c127) ?_
                      generalize hw126 : World.setCell w122 (p9.add 2) (.bool (decide (r123 = first3))) = w126 at h ⊢
                      try dsimp only at h
                      refine WL_nil ?_
                      refine nrm ?_
                      exact ⟨e0, e2, e3, h⟩
                    · rw [if_neg (neT hb125)] at h
                      refine WL_skip (gdN (b := r124) 64 rfl rfl hb125) rfl ?_
                      refine WL_skip (gdN (b := r124) 64 rfl rfl hb125) rfl ?_
                      refine WL_skip (gdN (b := r124) 64 rfl rfl hb125) rfl ?_
                      refine WL_val gd0 ((o_pickF (v := .bool false) rfl hb125 rfl) _) rfl ?_
                      refine WL_val gd0 ((o_nilCheck (by exact (congrArg Value.pointer q10))) _) rfl ?_
                      refine WL_val gd0 ((o_fieldAddr 2 Try.underlying45 rfl Try.sizeOf4 rfl rfl rfl) _) rfl ?_
                      obtain ⟨c129, h⟩ := h
                      refine WL_act gd0 (o_store (v := .bool false) Try.sizeOf4 rfl rfl rfl c129) ?_
                      generalize hw128 : World.setCell w122 (p9.add 2) (.bool false) = w128 at h ⊢
                      try dsimp only at h
                      refine WL_nil ?_
                      refine nrm ?_
                      exact ⟨e0, e2, e3, h⟩
                  · rw [if_neg (neT hb117)] at h
                    refine WC_skip ?_
                    refine nrm ?_
                    exact ⟨e0, e2, e3, h⟩
                · rintro ρ w80 ⟨e0_77, e2_78, e3_79, h⟩
                  unfold F10_j3 at h
                  refine WC_cut (fun ρ w' => ρ 0 = .pointer u1 ∧ F10_j4 u1 w' k) ?_ ?_
                  · refine WC_block ?_
                    refine WC_seq ?_
                    refine WC_region ?_
                    refine WL_val gd0 ((o_move (v := .pointer u1) (by exact e0_77)) _) rfl ?_
                    refine WL_val gd0 ((o_nilCheck (by exact (congrArg Value.pointer q10))) _) rfl ?_
                    refine WL_val gd0 ((o_fieldAddr 2 Try.underlying45 rfl Try.sizeOf4 rfl rfl rfl) _) rfl ?_
                    obtain ⟨t87, hc88, h⟩ := h
                    refine WL_val gd0 (o_load Try.isAgg4 rfl hc88) rfl ?_
                    refine WL_val gd0 ((o_assign (v := .bool t87) rfl) _) rfl ?_
                    refine WL_nil ?_
                    refine nrm ?_
                    refine WC_cond (t := t87) rfl (fun hb89 => ?_) (fun hb89 => ?_)
                    · rw [if_pos hb89] at h
                      refine WC_region ?_
                      refine WL_val gd0 ((o_move (v := .pointer u1) (by exact e0_77)) _) rfl ?_
                      refine WL_val gd0 ((o_move (v := .pointer u1) (by exact e0_77)) _) rfl ?_
                      refine WL_val gd0 ((o_nilCheck (by exact (congrArg Value.pointer q10))) _) rfl ?_
                      refine WL_val gd0 ((o_fieldAddr 5 Try.underlying45 rfl Try.sizeOf29 rfl rfl rfl) _) rfl ?_
                      obtain ⟨x_a90, x_n91, x_c92, hc93, h⟩ := h
                      refine WL_val gd0 (o_load Try.isAgg29 rfl hc93) rfl ?_
                      refine WL_val gd0 ((o_move (v := .slice data_a4 data_n5 data_c6) (by exact e3_79)) _) rfl ?_
                      have h := New.out h
                      refine WL_val gd0 (o_buildSlice (e := 29) (ps := [(0, .slice x_a90 x_n91 x_c92), (1, .slice data_a4 data_n5 data_c6)]) (cs := [.slice x_a90 x_n91 x_c92, .slice data_a4 data_n5 data_c6]) (partCons rfl (partCons rfl partNil)) (fun w => by kernel_rfl)) rfl ?_
                      generalize hp94 : fresh w80 = p94 at h ⊢
                      generalize hw95 : push w80 29 [.slice x_a90 x_n91 x_c92, .slice data_a4 data_n5 data_c6] = w95 at h ⊢
                      try dsimp only at h
                      refine WL_call gd0 (o_call Try.call21 (argCons rfl argNil) _) rfl (h.mono ?_)
                      rintro _ w96 ⟨x_a97, x_n98, x_c99, rfl, h⟩
                      refine WL_val gd0 ((o_nilCheck (by exact (congrArg Value.pointer q10))) _) rfl ?_
                      refine WL_val gd0 ((o_fieldAddr 5 Try.underlying45 rfl Try.sizeOf29 rfl rfl rfl) _) rfl ?_
                      obtain ⟨c101, h⟩ := h
                      refine WL_act gd0 (o_store (v := .slice x_a97 x_n98 x_c99) Try.sizeOf29 rfl rfl rfl c101) ?_
                      generalize hw100 : World.setCell w96 (p9.add 5) (.slice x_a97 x_n98 x_c99) = w100 at h ⊢
                      try dsimp only at h
                      refine WL_nil ?_
                      refine nrmB ?_
                      refine nrm ?_
                      exact ⟨e0_77, h⟩
                    · rw [if_neg (neT hb89)] at h
                      refine WC_seq ?_
                      refine WC_region ?_
                      refine WL_val gd0 ((o_move (v := .int .i64 first3) (by exact e2_78)) _) rfl ?_
                      refine WL_val gd0 ((o_eql rfl rfl) _) rfl ?_
                      refine WL_val gd0 ((o_assign (v := .bool (decide (first3 = 2047))) rfl) _) rfl ?_
                      refine WL_nil ?_
                      refine nrm ?_
                      refine WC_cond (t := (decide (first3 = 2047))) rfl (fun hb102 => ?_) (fun hb102 => ?_)
                      · rw [if_pos (of_decide_eq_true hb102)] at h
                        refine WC_seq ?_
                        refine WC_region ?_
                        refine WL_val gd0 ((o_move (v := .pointer u1) (by exact e0_77)) _) rfl ?_
                        refine WL_val gd0 ((o_nilCheck (by exact (congrArg Value.pointer q10))) _) rfl ?_
                        refine WL_val gd0 ((o_fieldAddr 5 Try.underlying45 rfl Try.sizeOf29 rfl rfl rfl) _) rfl ?_
                        obtain ⟨c104, h⟩ := h
                        refine WL_act gd0 (o_store (v := .slice none 0 0) Try.sizeOf29 rfl rfl rfl c104) ?_
                        generalize hw103 : World.setCell w80 (p9.add 5) (.slice none 0 0) = w103 at h ⊢
                        try dsimp only at h
                        refine WL_nil ?_
                        refine nrm ?_
                        refine WC_seq ?_
                        refine WC_region ?_
                        refine WL_val gd0 ((o_assign (v := .slice none 0 0) rfl) _) rfl ?_
                        refine WL_nil ?_
                        refine nrm ?_
                        refine WC_ret ?_
                        refine rtB ?_
                        refine rtT ?_
                        refine rtE ?_
                        exact gv1 rfl rfl h
                      · rw [if_neg (of_decide_eq_false hb102)] at h
                        refine WC_region ?_
                        refine WL_val gd0 ((o_move (v := .pointer u1) (by exact e0_77)) _) rfl ?_
                        refine WL_val gd0 ((o_move (v := .pointer u1) (by exact e0_77)) _) rfl ?_
                        refine WL_val gd0 ((o_move (v := .slice data_a4 data_n5 data_c6) (by exact e3_79)) _) rfl ?_
                        refine WL_val gd0 ((o_move (v := .int .i64 first3) (by exact e2_78)) _) rfl ?_
                        obtain ⟨c105, c106, h⟩ := h
                        refine WL_val gd0 ((o_sliceL Try.underlying29 Try.sizeOf5 rfl rfl c105 c106) _) rfl ?_
                        refine WL_call gd0 (o_call Try.call22 (argCons rfl argNil) _) rfl (h.mono ?_)
                        rintro _ w107 ⟨x_a108, x_n109, x_c110, rfl, h⟩
                        refine WL_val gd0 ((o_nilCheck (by exact (congrArg Value.pointer q10))) _) rfl ?_
                        refine WL_val gd0 ((o_fieldAddr 5 Try.underlying45 rfl Try.sizeOf29 rfl rfl rfl) _) rfl ?_
                        obtain ⟨c112, h⟩ := h
                        refine WL_act gd0 (o_store (v := .slice x_a108 x_n109 x_c110) Try.sizeOf29 rfl rfl rfl c112) ?_
                        generalize hw111 : World.setCell w107 (p9.add 5) (.slice x_a108 x_n109 x_c110) = w111 at h ⊢
                        try dsimp only at h
                        refine WL_val gd0 ((o_nilCheck (by exact (congrArg Value.pointer q10))) _) rfl ?_
                        refine WL_val gd0 ((o_fieldAddr 2 Try.underlying45 rfl Try.sizeOf4 rfl rfl rfl) _) rfl ?_
                        obtain ⟨c114, h⟩ := h
                        refine WL_act gd0 (o_store (v := .bool true) Try.sizeOf4 rfl rfl rfl c114) ?_
                        generalize hw113 : World.setCell w111 (p9.add 2) (.bool true) = w113 at h ⊢
                        try dsimp only at h
                        refine WL_nil ?_
                        refine nrmB ?_
                        refine nrm ?_
                        exact ⟨e0_77, h⟩
                  · rintro ρ w82 ⟨e0_81, h⟩
                    unfold F10_j4 at h
                    refine WC_seq ?_
                    refine WC_region ?_
                    refine WL_val gd0 ((o_move (v := .pointer u1) (by exact e0_81)) _) rfl ?_
                    refine WL_call gd0 (o_call Try.call23 (argCons rfl argNil) _) rfl (h.mono ?_)
                    rintro _ w83 ⟨t_a84, t_n85, t_c86, rfl, h⟩
                    refine WL_val gd0 ((o_assign (v := .slice t_a84 t_n85 t_c86) rfl) _) rfl ?_
                    refine WL_nil ?_
                    refine nrm ?_
                    refine WC_ret ?_
                    refine rtE ?_
                    exact gv1 rfl rfl h
          · rw [if_neg (of_decide_eq_false hb16)] at h
            refine WL_skip (gdN (b := (decide (first3 ≠ 2047))) 30 rfl rfl hb16) rfl ?_
            refine WL_skip (gdN (b := (decide (first3 ≠ 2047))) 30 rfl rfl hb16) rfl ?_
            refine WL_val gd0 ((o_pickF (v := .bool false) rfl hb16 rfl) _) rfl ?_
            refine WL_val gd0 ((o_move (v := .bool false) rfl) _) rfl ?_
            refine WL_skip (gdN (b := false) 34 rfl rfl rfl) rfl ?_
            refine WL_skip (gdN (b := false) 34 rfl rfl rfl) rfl ?_
            refine WL_skip (gdN (b := false) 34 rfl rfl rfl) rfl ?_
            refine WL_skip (gdU 37 rfl rfl) rfl ?_
            refine WL_skip (gdU 37 rfl rfl) rfl ?_
            refine WL_skip (gdU 37 rfl rfl) rfl ?_
            refine WL_skip (gdU 37 rfl rfl) rfl ?_
            refine WL_skip (gdN (b := false) 34 rfl rfl rfl) rfl ?_
            refine WL_val gd0 ((o_pickF (v := .bool false) rfl rfl rfl) _) rfl ?_
            refine WL_nil ?_
            refine nrm ?_
            refine WC_cond (t := false) rfl (fun hx => by rw [(rfl : false = false)] at hx; cases hx) (fun _ => ?_)
            refine WC_skip ?_
            refine nrm ?_
            refine WC_seq ?_
            refine WC_region ?_
            refine WL_val gd0 ((o_move (v := .pointer u1) (by exact e0)) _) rfl ?_
            refine WL_val gd0 ((o_move (v := .int .i64 count2) (by exact e1)) _) rfl ?_
            refine WL_call gd0 (o_call Try.call19 (argCons rfl (argCons rfl argNil)) _) rfl (h.mono ?_)
            rintro _ w130 ⟨rfl, h⟩
            refine WL_nil ?_
            refine nrm ?_
            refine WC_seq ?_
            refine WC_seq ?_
            refine WC_region ?_
            refine WL_val gd0 ((o_move (v := .int .i64 first3) (by exact e2)) _) rfl ?_
            refine WL_val gd0 ((o_eql rfl rfl) _) rfl ?_
            refine WL_nil ?_
            refine nrm ?_
            refine WC_cond (t := (decide (first3 = 2046))) rfl (fun hb131 => ?_) (fun hb131 => ?_)
            · rw [if_pos (of_decide_eq_true hb131)] at h
              refine WC_seq ?_
              refine WC_region ?_
              refine WL_val gd0 ((o_assign (v := .slice none 0 0) rfl) _) rfl ?_
              refine WL_nil ?_
              refine nrm ?_
              refine WC_ret ?_
              refine rtT ?_
              refine rtE ?_
              exact gv1 rfl rfl h
            · rw [if_neg (of_decide_eq_false hb131)] at h
              refine WC_skip ?_
              refine nrm ?_
              refine WC_cut (fun ρ w' => ρ 0 = .pointer u1 ∧ ρ 2 = .int .i64 first3 ∧ ρ 3 = .slice data_a4 data_n5 data_c6 ∧ F10_j5 p9 data_a4 data_n5 data_c6 u1 first3 w' k) ?_ ?_
              · refine WC_seq ?_
                refine WC_region ?_
                refine WL_val gd0 ((o_move (v := .pointer u1) (by exact e0)) _) rfl ?_
                refine WL_val gd0 ((o_nilCheck (by exact (congrArg Value.pointer q10))) _) rfl ?_
                refine WL_val gd0 ((o_fieldAddr 2 Try.underlying45 rfl Try.sizeOf4 rfl rfl rfl) _) rfl ?_
                obtain ⟨x170, hc171, h⟩ := h
                refine WL_val gd0 (o_load Try.isAgg4 rfl hc171) rfl ?_
                refine WL_nil ?_
                refine nrm ?_
                refine WC_cond (t := x170) rfl (fun hb172 => ?_) (fun hb172 => ?_)
                · rw [if_pos hb172] at h
                  refine WC_seq ?_
                  refine WC_region ?_
                  refine WL_val gd0 ((o_move (v := .pointer u1) (by exact e0)) _) rfl ?_
                  refine WL_val gd0 ((o_nilCheck (by exact (congrArg Value.pointer q10))) _) rfl ?_
                  refine WL_val gd0 ((o_fieldAddr 5 Try.underlying45 rfl Try.sizeOf29 rfl rfl rfl) _) rfl ?_
                  obtain ⟨x_a173, x_n174, x_c175, hc176, h⟩ := h
                  refine WL_val gd0 (o_load Try.isAgg29 rfl hc176) rfl ?_
                  refine WL_val gd0 ((o_move (v := .slice data_a4 data_n5 data_c6) (by exact e3)) _) rfl ?_
                  refine WL_call gd0 (o_call Try.call20 (argCons rfl (argCons rfl argNil)) _) rfl (h.mono ?_)
                  rintro _ w177 ⟨r178, r179, rfl, h⟩
                  refine WL_val gd0 ((o_move (v := .tuple #[.int .i64 r178, .bool r179]) rfl) _) rfl ?_
                  refine WL_val gd0 ((o_extract (vs := [.int .i64 r178, .bool r179]) (r := .int .i64 r178) rfl rfl) _) rfl ?_
                  refine WL_val gd0 ((o_extract (vs := [.int .i64 r178, .bool r179]) (r := .bool r179) rfl rfl) _) rfl ?_
                  refine WL_val gd0 ((o_assign (v := .int .i64 r178) rfl) _) rfl ?_
                  refine WL_val gd0 ((o_assign (v := .bool r179) rfl) _) rfl ?_
                  refine WL_nil ?_
                  refine nrm ?_
                  refine WC_region ?_
                  refine WL_val gd0 ((o_move (v := .pointer u1) (by exact e0)) _) rfl ?_
                  refine WL_val gd0 ((o_move (v := .bool r179) rfl) _) rfl ?_
                  refine WL_val gd0 ((o_move (v := .bool r179) rfl) _) rfl ?_
                  refine bsplit r179 (fun hb180 => ?_) (fun hb180 => ?_)
                  · rw [if_pos hb180] at h
                    refine WL_val (gdY (b := r179) 64 rfl rfl hb180) ((o_move (v := .int .i64 r178) rfl) _) rfl ?_
                    refine WL_val (gdY (b := r179) 64 rfl rfl hb180) ((o_move (v := .int .i64 first3) (by exact e2)) _) rfl ?_
                    refine WL_val (gdY (b := r179) 64 rfl rfl hb180) ((o_eql rfl rfl) _) rfl ?_
                    refine WL_val gd0 ((o_pickT (v := .bool (decide (r178 = first3))) rfl hb180 rfl) _) rfl ?_
                    refine WL_val gd0 ((o_nilCheck (by exact (congrArg Value.pointer q10))) _) rfl ?_
                    refine WL_val gd0 ((o_fieldAddr 2 Try.underlying45 rfl Try.sizeOf4 rfl rfl rfl) _) rfl ?_
                    obtain ⟨c182, h⟩ := h
                    refine WL_act gd0 (o_store (v := .bool (decide (r178 = first3))) Try.sizeOf4 rfl rfl rfl c182) ?_
                    generalize hw181 : World.setCell w177 (p9.add 2) (.bool (decide (r178 = first3))) = w181 at h ⊢
                    try dsimp only at h
                    refine WL_nil ?_
                    refine nrm ?_
                    exact ⟨e0, e2, e3, h⟩
                  · rw [if_neg (neT hb180)] at h
                    refine WL_skip (gdN (b := r179) 64 rfl rfl hb180) rfl ?_
                    refine WL_skip (gdN (b := r179) 64 rfl rfl hb180) rfl ?_
                    refine WL_skip (gdN (b := r179) 64 rfl rfl hb180) rfl ?_
                    refine WL_val gd0 ((o_pickF (v := .bool false) rfl hb180 rfl) _) rfl ?_
                    refine WL_val gd0 ((o_nilCheck (by exact (congrArg Value.pointer q10))) _) rfl ?_
                    refine WL_val gd0 ((o_fieldAddr 2 Try.underlying45 rfl Try.sizeOf4 rfl rfl rfl) _) rfl ?_
                    obtain ⟨c184, h⟩ := h
                    refine WL_act gd0 (o_store (v := .bool false) Try.sizeOf4 rfl rfl rfl c184) ?_
                    generalize hw183 : World.setCell w177 (p9.add 2) (.bool false) = w183 at h ⊢
                    try dsimp only at h
                    refine WL_nil ?_
                    refine nrm ?_
                    exact ⟨e0, e2, e3, h⟩
                · rw [if_neg (neT hb172)] at h
                  refine WC_skip ?_
                  refine nrm ?_
                  exact ⟨e0, e2, e3, h⟩
              · rintro ρ w135 ⟨e0_132, e2_133, e3_134, h⟩
                unfold F10_j5 at h
                refine WC_cut (fun ρ w' => ρ 0 = .pointer u1 ∧ F10_j6 u1 w' k) ?_ ?_
                · refine WC_block ?_
                  refine WC_seq ?_
                  refine WC_region ?_
                  refine WL_val gd0 ((o_move (v := .pointer u1) (by exact e0_132)) _) rfl ?_
                  refine WL_val gd0 ((o_nilCheck (by exact (congrArg Value.pointer q10))) _) rfl ?_
                  refine WL_val gd0 ((o_fieldAddr 2 Try.underlying45 rfl Try.sizeOf4 rfl rfl rfl) _) rfl ?_
                  obtain ⟨t142, hc143, h⟩ := h
                  refine WL_val gd0 (o_load Try.isAgg4 rfl hc143) rfl ?_
                  refine WL_val gd0 ((o_assign (v := .bool t142) rfl) _) rfl ?_
                  refine WL_nil ?_
                  refine nrm ?_
                  refine WC_cond (t := t142) rfl (fun hb144 => ?_) (fun hb144 => ?_)
                  · rw [if_pos hb144] at h
                    refine WC_region ?_
                    refine WL_val gd0 ((o_move (v := .pointer u1) (by exact e0_132)) _) rfl ?_
                    refine WL_val gd0 ((o_move (v := .pointer u1) (by exact e0_132)) _) rfl ?_
                    refine WL_val gd0 ((o_nilCheck (by exact (congrArg Value.pointer q10))) _) rfl ?_
                    refine WL_val gd0 ((o_fieldAddr 5 Try.underlying45 rfl Try.sizeOf29 rfl rfl rfl) _) rfl ?_
                    obtain ⟨x_a145, x_n146, x_c147, hc148, h⟩ := h
                    refine WL_val gd0 (o_load Try.isAgg29 rfl hc148) rfl ?_
                    refine WL_val gd0 ((o_move (v := .slice data_a4 data_n5 data_c6) (by exact e3_134)) _) rfl ?_
                    have h := New.out h
                    refine WL_val gd0 (o_buildSlice (e := 29) (ps := [(0, .slice x_a145 x_n146 x_c147), (1, .slice data_a4 data_n5 data_c6)]) (cs := [.slice x_a145 x_n146 x_c147, .slice data_a4 data_n5 data_c6]) (partCons rfl (partCons rfl partNil)) (fun w => by kernel_rfl)) rfl ?_
                    generalize hp149 : fresh w135 = p149 at h ⊢
                    generalize hw150 : push w135 29 [.slice x_a145 x_n146 x_c147, .slice data_a4 data_n5 data_c6] = w150 at h ⊢
                    try dsimp only at h
                    refine WL_call gd0 (o_call Try.call21 (argCons rfl argNil) _) rfl (h.mono ?_)
                    rintro _ w151 ⟨x_a152, x_n153, x_c154, rfl, h⟩
                    refine WL_val gd0 ((o_nilCheck (by exact (congrArg Value.pointer q10))) _) rfl ?_
                    refine WL_val gd0 ((o_fieldAddr 5 Try.underlying45 rfl Try.sizeOf29 rfl rfl rfl) _) rfl ?_
                    obtain ⟨c156, h⟩ := h
                    refine WL_act gd0 (o_store (v := .slice x_a152 x_n153 x_c154) Try.sizeOf29 rfl rfl rfl c156) ?_
                    generalize hw155 : World.setCell w151 (p9.add 5) (.slice x_a152 x_n153 x_c154) = w155 at h ⊢
                    try dsimp only at h
                    refine WL_nil ?_
                    refine nrmB ?_
                    refine nrm ?_
                    exact ⟨e0_132, h⟩
                  · rw [if_neg (neT hb144)] at h
                    refine WC_seq ?_
                    refine WC_region ?_
                    refine WL_val gd0 ((o_move (v := .int .i64 first3) (by exact e2_133)) _) rfl ?_
                    refine WL_val gd0 ((o_eql rfl rfl) _) rfl ?_
                    refine WL_val gd0 ((o_assign (v := .bool (decide (first3 = 2047))) rfl) _) rfl ?_
                    refine WL_nil ?_
                    refine nrm ?_
                    refine WC_cond (t := (decide (first3 = 2047))) rfl (fun hb157 => ?_) (fun hb157 => ?_)
                    · rw [if_pos (of_decide_eq_true hb157)] at h
                      refine WC_seq ?_
                      refine WC_region ?_
                      refine WL_val gd0 ((o_move (v := .pointer u1) (by exact e0_132)) _) rfl ?_
                      refine WL_val gd0 ((o_nilCheck (by exact (congrArg Value.pointer q10))) _) rfl ?_
                      refine WL_val gd0 ((o_fieldAddr 5 Try.underlying45 rfl Try.sizeOf29 rfl rfl rfl) _) rfl ?_
                      obtain ⟨c159, h⟩ := h
                      refine WL_act gd0 (o_store (v := .slice none 0 0) Try.sizeOf29 rfl rfl rfl c159) ?_
                      generalize hw158 : World.setCell w135 (p9.add 5) (.slice none 0 0) = w158 at h ⊢
                      try dsimp only at h
                      refine WL_nil ?_
                      refine nrm ?_
                      refine WC_seq ?_
                      refine WC_region ?_
                      refine WL_val gd0 ((o_assign (v := .slice none 0 0) rfl) _) rfl ?_
                      refine WL_nil ?_
                      refine nrm ?_
                      refine WC_ret ?_
                      refine rtB ?_
                      refine rtT ?_
                      refine rtE ?_
                      exact gv1 rfl rfl h
                    · rw [if_neg (of_decide_eq_false hb157)] at h
                      refine WC_region ?_
                      refine WL_val gd0 ((o_move (v := .pointer u1) (by exact e0_132)) _) rfl ?_
                      refine WL_val gd0 ((o_move (v := .pointer u1) (by exact e0_132)) _) rfl ?_
                      refine WL_val gd0 ((o_move (v := .slice data_a4 data_n5 data_c6) (by exact e3_134)) _) rfl ?_
                      refine WL_val gd0 ((o_move (v := .int .i64 first3) (by exact e2_133)) _) rfl ?_
                      obtain ⟨c160, c161, h⟩ := h
                      refine WL_val gd0 ((o_sliceL Try.underlying29 Try.sizeOf5 rfl rfl c160 c161) _) rfl ?_
                      refine WL_call gd0 (o_call Try.call22 (argCons rfl argNil) _) rfl (h.mono ?_)
                      rintro _ w162 ⟨x_a163, x_n164, x_c165, rfl, h⟩
                      refine WL_val gd0 ((o_nilCheck (by exact (congrArg Value.pointer q10))) _) rfl ?_
                      refine WL_val gd0 ((o_fieldAddr 5 Try.underlying45 rfl Try.sizeOf29 rfl rfl rfl) _) rfl ?_
                      obtain ⟨c167, h⟩ := h
                      refine WL_act gd0 (o_store (v := .slice x_a163 x_n164 x_c165) Try.sizeOf29 rfl rfl rfl c167) ?_
                      generalize hw166 : World.setCell w162 (p9.add 5) (.slice x_a163 x_n164 x_c165) = w166 at h ⊢
                      try dsimp only at h
                      refine WL_val gd0 ((o_nilCheck (by exact (congrArg Value.pointer q10))) _) rfl ?_
                      refine WL_val gd0 ((o_fieldAddr 2 Try.underlying45 rfl Try.sizeOf4 rfl rfl rfl) _) rfl ?_
                      obtain ⟨c169, h⟩ := h
                      refine WL_act gd0 (o_store (v := .bool true) Try.sizeOf4 rfl rfl rfl c169) ?_
                      generalize hw168 : World.setCell w166 (p9.add 2) (.bool true) = w168 at h ⊢
                      try dsimp only at h
                      refine WL_nil ?_
                      refine nrmB ?_
                      refine nrm ?_
                      exact ⟨e0_132, h⟩
                · rintro ρ w137 ⟨e0_136, h⟩
                  unfold F10_j6 at h
                  refine WC_seq ?_
                  refine WC_region ?_
                  refine WL_val gd0 ((o_move (v := .pointer u1) (by exact e0_136)) _) rfl ?_
                  refine WL_call gd0 (o_call Try.call23 (argCons rfl argNil) _) rfl (h.mono ?_)
                  rintro _ w138 ⟨t_a139, t_n140, t_c141, rfl, h⟩
                  refine WL_val gd0 ((o_assign (v := .slice t_a139 t_n140 t_c141) rfl) _) rfl ?_
                  refine WL_nil ?_
                  refine nrm ?_
                  refine WC_ret ?_
                  refine rtE ?_
                  exact gv1 rfl rfl h

/-- (*spacecraft packer.Packer).Left -/
def F11 (p1 : Option Addr) (w2 : World) (k : Value → World → Prop) : Prop :=
  Does Try.prog 14 #[.pointer p1] w2 (fun v w3 => ∃ (x4 : Bool), v = .bool x4 ∧ if x4 = true then
  k (.int .i64 0) w3
else
  ∃ (p6 : Addr), p1 = some p6 ∧ ∃ (t8 : Int), w3.cell? (p6.add 2) = some (.int .i64 t8) ∧ k (.int .i64 t8) w3)
set_option maxRecDepth 100000 in
set_option maxHeartbeats 2000000 in
theorem w11 (p1 : Option Addr) (w2 : World) (k : Value → World → Prop) (h : F11 p1 w2 k) : Does Try.prog 11 #[.pointer p1] w2 k := by
  refine enter 9 Try.func11 rfl rfl rfl ?_
  intro ρ hρ
  have e0 := hρ 0 _ rfl
  unfold F11 at h
  refine WC_seq ?_
  refine WC_region ?_
  refine WL_val gd0 ((o_assign (v := .int .i64 0) rfl) _) rfl ?_
  refine WL_nil ?_
  refine nrm ?_
  refine WC_seq ?_
  refine WC_seq ?_
  refine WC_region ?_
  refine WL_val gd0 ((o_move (v := .pointer p1) (by exact e0)) _) rfl ?_
  refine WL_call gd0 (o_call Try.call14 (argCons rfl argNil) _) rfl (h.mono ?_)
  rintro _ w3 ⟨x4, rfl, h⟩
  refine WL_nil ?_
  refine nrm ?_
  refine WC_cond (t := x4) rfl (fun hb5 => ?_) (fun hb5 => ?_)
  · rw [if_pos hb5] at h
    refine WC_seq ?_
    refine WC_region ?_
    refine WL_val gd0 ((o_assign (v := .int .i64 0) rfl) _) rfl ?_
    refine WL_nil ?_
    refine nrm ?_
    refine WC_ret ?_
    refine rtT ?_
    refine rtE ?_
    exact gv1 rfl rfl h
  · rw [if_neg (neT hb5)] at h
    refine WC_skip ?_
    refine nrm ?_
    refine WC_seq ?_
    refine WC_region ?_
    refine WL_val gd0 ((o_move (v := .pointer p1) (by exact e0)) _) rfl ?_
    obtain ⟨p6, q7, h⟩ := h
    refine WL_val gd0 ((o_nilCheck (by exact (congrArg Value.pointer q7))) _) rfl ?_
    refine WL_val gd0 ((o_fieldAddr 2 Try.underlying43 rfl Try.sizeOf3 rfl rfl rfl) _) rfl ?_
    obtain ⟨t8, hc9, h⟩ := h
    refine WL_val gd0 (o_load Try.isAgg3 rfl hc9) rfl ?_
    refine WL_val gd0 ((o_assign (v := .int .i64 t8) rfl) _) rfl ?_
    refine WL_nil ?_
    refine nrm ?_
    refine WC_ret ?_
    refine rtE ?_
    exact gv1 rfl rfl h

/-- spacecraft packet.Valid -/
def F12 (p1 : Bool) (p2 : Bool) (p3 : Int) (p4 : Int) (p5 : Int) (p_a6 : Option Addr) (p_n7 : Nat) (p_c8 : Nat) (w9 : World) (k : Value → World → Prop) : Prop :=
  New w9 34 [.bool p1, .bool p2, .int .i64 p3, .int .i64 p4, .int .i64 p5, .slice p_a6 p_n7 p_c8] (fun p10 w11 => ∃ (x12 : Int), w11.cell? (p10.add 2) = some (.int .i64 x12) ∧ if x12 < 0 then
  k (.bool false) w11
else
  ∃ (x15 : Int), w11.cell? (p10.add 2) = some (.int .i64 x15) ∧ if 2047 < x15 then
    k (.bool false) w11
  else
    ∃ (x18 : Int), w11.cell? (p10.add 3) = some (.int .i64 x18) ∧ if x18 < 0 then
      k (.bool false) w11
    else
      ∃ (x21 : Int), w11.cell? (p10.add 3) = some (.int .i64 x21) ∧ if 3 < x21 then
        k (.bool false) w11
      else
        ∃ (x24 : Int), w11.cell? (p10.add 4) = some (.int .i64 x24) ∧ if x24 < 0 then
          k (.bool false) w11
        else
          ∃ (x27 : Int), w11.cell? (p10.add 4) = some (.int .i64 x27) ∧ if 16383 < x27 then
            k (.bool false) w11
          else
            ∃ (x_a30 : Option Addr) (x_n31 x_c32 : Nat), w11.cell? (p10.add 5) = some (.slice x_a30 x_n31 x_c32) ∧ if (x_n31 : Int) < 1 then
              k (.bool false) w11
            else
              ∃ (x_a35 : Option Addr) (x_n36 x_c37 : Nat), w11.cell? (p10.add 5) = some (.slice x_a35 x_n36 x_c37) ∧ if 4090 < (x_n36 : Int) then
                k (.bool false) w11
              else
                ∃ (x40 : Int), w11.cell? (p10.add 2) = some (.int .i64 x40) ∧ if x40 ≠ 2047 then
                  k (.bool true) w11
                else
                  ∃ (x43 x44 : Bool) (x45 x46 x47 : Int) (x_a48 : Option Addr) (x_n49 x_c50 : Nat), Cells w11 p10 0 [.bool x43, .bool x44, .int .i64 x45, .int .i64 x46, .int .i64 x47, .slice x_a48 x_n49 x_c50] ∧ Does Try.prog 24 #[.agg #[.bool x43, .bool x44, .int .i64 x45, .int .i64 x46, .int .i64 x47, .slice x_a48 x_n49 x_c50]] w11 (fun v w52 => ∃ (x53 : Bool), v = .bool x53 ∧ k (.bool x53) w52))
set_option maxRecDepth 100000 in
set_option maxHeartbeats 2000000 in
theorem w12 (p1 : Bool) (p2 : Bool) (p3 : Int) (p4 : Int) (p5 : Int) (p_a6 : Option Addr) (p_n7 : Nat) (p_c8 : Nat) (w9 : World) (k : Value → World → Prop) (h : F12 p1 p2 p3 p4 p5 p_a6 p_n7 p_c8 w9 k) : Does Try.prog 12 #[.agg #[.bool p1, .bool p2, .int .i64 p3, .int .i64 p4, .int .i64 p5, .slice p_a6 p_n7 p_c8]] w9 k := by
  refine enter 48 Try.func12 rfl rfl rfl ?_
  intro ρ hρ
  have e0 := hρ 0 _ rfl
  unfold F12 at h
  refine WC_seq ?_
  refine WC_region ?_
  have h := New.out h
  refine WL_val gd0 (o_box (v := .agg #[.bool p1, .bool p2, .int .i64 p3, .int .i64 p4, .int .i64 p5, .slice p_a6 p_n7 p_c8]) (cs := [.bool p1, .bool p2, .int .i64 p3, .int .i64 p4, .int .i64 p5, .slice p_a6 p_n7 p_c8]) (by exact e0) rfl) rfl ?_
  generalize hp10 : fresh w9 = p10 at h ⊢
  generalize hw11 : push w9 34 [.bool p1, .bool p2, .int .i64 p3, .int .i64 p4, .int .i64 p5, .slice p_a6 p_n7 p_c8] = w11 at h ⊢
  try dsimp only at h
  refine WL_val gd0 ((o_assign (v := .bool false) rfl) _) rfl ?_
  refine WL_nil ?_
  refine nrm ?_
  refine WC_seq ?_
  refine WC_seq ?_
  refine WC_region ?_
  refine WL_val gd0 ((o_fieldAddr 2 Try.underlying34 rfl Try.sizeOf3 rfl rfl rfl) _) rfl ?_
  obtain ⟨x12, hc13, h⟩ := h
  refine WL_val gd0 (o_load Try.isAgg3 rfl hc13) rfl ?_
  refine WL_val gd0 ((o_lss rfl rfl) _) rfl ?_
  refine WL_val gd0 ((o_move (v := .bool (decide (x12 < 0))) rfl) _) rfl ?_
  refine bsplit (decide (x12 < 0)) (fun hb14 => ?_) (fun hb14 => ?_)
  · rw [if_pos (of_decide_eq_true hb14)] at h
    refine WL_skip (gdN (b := (decide (x12 < 0))) 6 rfl rfl hb14) rfl ?_
    refine WL_skip (gdN (b := (decide (x12 < 0))) 6 rfl rfl hb14) rfl ?_
    refine WL_skip (gdN (b := (decide (x12 < 0))) 6 rfl rfl hb14) rfl ?_
    refine WL_val gd0 ((o_pickT (v := .bool true) rfl hb14 rfl) _) rfl ?_
    refine WL_val gd0 ((o_move (v := .bool true) rfl) _) rfl ?_
    refine WL_skip (gdN (b := true) 11 rfl rfl rfl) rfl ?_
    refine WL_skip (gdN (b := true) 11 rfl rfl rfl) rfl ?_
    refine WL_skip (gdN (b := true) 11 rfl rfl rfl) rfl ?_
    refine WL_val gd0 ((o_pickT (v := .bool true) rfl rfl rfl) _) rfl ?_
    refine WL_val gd0 ((o_move (v := .bool true) rfl) _) rfl ?_
    refine WL_skip (gdN (b := true) 16 rfl rfl rfl) rfl ?_
    refine WL_skip (gdN (b := true) 16 rfl rfl rfl) rfl ?_
    refine WL_skip (gdN (b := true) 16 rfl rfl rfl) rfl ?_
    refine WL_val gd0 ((o_pickT (v := .bool true) rfl rfl rfl) _) rfl ?_
    refine WL_val gd0 ((o_move (v := .bool true) rfl) _) rfl ?_
    refine WL_skip (gdN (b := true) 21 rfl rfl rfl) rfl ?_
    refine WL_skip (gdN (b := true) 21 rfl rfl rfl) rfl ?_
    refine WL_skip (gdN (b := true) 21 rfl rfl rfl) rfl ?_
    refine WL_val gd0 ((o_pickT (v := .bool true) rfl rfl rfl) _) rfl ?_
    refine WL_val gd0 ((o_move (v := .bool true) rfl) _) rfl ?_
    refine WL_skip (gdN (b := true) 26 rfl rfl rfl) rfl ?_
    refine WL_skip (gdN (b := true) 26 rfl rfl rfl) rfl ?_
    refine WL_skip (gdN (b := true) 26 rfl rfl rfl) rfl ?_
    refine WL_val gd0 ((o_pickT (v := .bool true) rfl rfl rfl) _) rfl ?_
    refine WL_nil ?_
    refine nrm ?_
    refine WC_cond (t := true) rfl (fun _ => ?_) (fun hx => by rw [(rfl : true = true)] at hx; cases hx)
    refine WC_seq ?_
    refine WC_region ?_
    refine WL_val gd0 ((o_assign (v := .bool false) rfl) _) rfl ?_
    refine WL_nil ?_
    refine nrm ?_
    refine WC_ret ?_
    refine rtT ?_
    refine rtE ?_
    exact gv1 rfl rfl h
  · rw [if_neg (of_decide_eq_false hb14)] at h
    refine WL_val (gdY (b := (decide (x12 < 0))) 6 rfl rfl hb14) ((o_fieldAddr 2 Try.underlying34 rfl Try.sizeOf3 rfl rfl rfl) _) rfl ?_
    obtain ⟨x15, hc16, h⟩ := h
    refine WL_val (gdY (b := (decide (x12 < 0))) 6 rfl rfl hb14) (o_load Try.isAgg3 rfl hc16) rfl ?_
    refine WL_val (gdY (b := (decide (x12 < 0))) 6 rfl rfl hb14) ((o_gtr rfl rfl) _) rfl ?_
    refine WL_val gd0 ((o_pickF (v := .bool (decide (2047 < x15))) rfl hb14 rfl) _) rfl ?_
    refine WL_val gd0 ((o_move (v := .bool (decide (2047 < x15))) rfl) _) rfl ?_
    refine bsplit (decide (2047 < x15)) (fun hb17 => ?_) (fun hb17 => ?_)
    · rw [if_pos (of_decide_eq_true hb17)] at h
      refine WL_skip (gdN (b := (decide (2047 < x15))) 11 rfl rfl hb17) rfl ?_
      refine WL_skip (gdN (b := (decide (2047 < x15))) 11 rfl rfl hb17) rfl ?_
      refine WL_skip (gdN (b := (decide (2047 < x15))) 11 rfl rfl hb17) rfl ?_
      refine WL_val gd0 ((o_pickT (v := .bool true) rfl hb17 rfl) _) rfl ?_
      refine WL_val gd0 ((o_move (v := .bool true) rfl) _) rfl ?_
      refine WL_skip (gdN (b := true) 16 rfl rfl rfl) rfl ?_
      refine WL_skip (gdN (b := true) 16 rfl rfl rfl) rfl ?_
      refine WL_skip (gdN (b := true) 16 rfl rfl rfl) rfl ?_
      refine WL_val gd0 ((o_pickT (v := .bool true) rfl rfl rfl) _) rfl ?_
      refine WL_val gd0 ((o_move (v := .bool true) rfl) _) rfl ?_
      refine WL_skip (gdN (b := true) 21 rfl rfl rfl) rfl ?_
      refine WL_skip (gdN (b := true) 21 rfl rfl rfl) rfl ?_
      refine WL_skip (gdN (b := true) 21 rfl rfl rfl) rfl ?_
      refine WL_val gd0 ((o_pickT (v := .bool true) rfl rfl rfl) _) rfl ?_
      refine WL_val gd0 ((o_move (v := .bool true) rfl) _) rfl ?_
      refine WL_skip (gdN (b := true) 26 rfl rfl rfl) rfl ?_
      refine WL_skip (gdN (b := true) 26 rfl rfl rfl) rfl ?_
      refine WL_skip (gdN (b := true) 26 rfl rfl rfl) rfl ?_
      refine WL_val gd0 ((o_pickT (v := .bool true) rfl rfl rfl) _) rfl ?_
      refine WL_nil ?_
      refine nrm ?_
      refine WC_cond (t := true) rfl (fun _ => ?_) (fun hx => by rw [(rfl : true = true)] at hx; cases hx)
      refine WC_seq ?_
      refine WC_region ?_
      refine WL_val gd0 ((o_assign (v := .bool false) rfl) _) rfl ?_
      refine WL_nil ?_
      refine nrm ?_
      refine WC_ret ?_
      refine rtT ?_
      refine rtE ?_
      exact gv1 rfl rfl h
    · rw [if_neg (of_decide_eq_false hb17)] at h
      refine WL_val (gdY (b := (decide (2047 < x15))) 11 rfl rfl hb17) ((o_fieldAddr 3 Try.underlying34 rfl Try.sizeOf3 rfl rfl rfl) _) rfl ?_
      obtain ⟨x18, hc19, h⟩ := h
      refine WL_val (gdY (b := (decide (2047 < x15))) 11 rfl rfl hb17) (o_load Try.isAgg3 rfl hc19) rfl ?_
      refine WL_val (gdY (b := (decide (2047 < x15))) 11 rfl rfl hb17) ((o_lss rfl rfl) _) rfl ?_
      refine WL_val gd0 ((o_pickF (v := .bool (decide (x18 < 0))) rfl hb17 rfl) _) rfl ?_
      refine WL_val gd0 ((o_move (v := .bool (decide (x18 < 0))) rfl) _) rfl ?_
      refine bsplit (decide (x18 < 0)) (fun hb20 => ?_) (fun hb20 => ?_)
      · rw [if_pos (of_decide_eq_true hb20)] at h
        refine WL_skip (gdN (b := (decide (x18 < 0))) 16 rfl rfl hb20) rfl ?_
        refine WL_skip (gdN (b := (decide (x18 < 0))) 16 rfl rfl hb20) rfl ?_
        refine WL_skip (gdN (b := (decide (x18 < 0))) 16 rfl rfl hb20) rfl ?_
        refine WL_val gd0 ((o_pickT (v := .bool true) rfl hb20 rfl) _) rfl ?_
        refine WL_val gd0 ((o_move (v := .bool true) rfl) _) rfl ?_
        refine WL_skip (gdN (b := true) 21 rfl rfl rfl) rfl ?_
        refine WL_skip (gdN (b := true) 21 rfl rfl rfl) rfl ?_
        refine WL_skip (gdN (b := true) 21 rfl rfl rfl) rfl ?_
        refine WL_val gd0 ((o_pickT (v := .bool true) rfl rfl rfl) _) rfl ?_
        refine WL_val gd0 ((o_move (v := .bool true) rfl) _) rfl ?_
        refine WL_skip (gdN (b := true) 26 rfl rfl rfl) rfl ?_
        refine WL_skip (gdN (b := true) 26 rfl rfl rfl) rfl ?_
        refine WL_skip (gdN (b := true) 26 rfl rfl rfl) rfl ?_
        refine WL_val gd0 ((o_pickT (v := .bool true) rfl rfl rfl) _) rfl ?_
        refine WL_nil ?_
        refine nrm ?_
        refine WC_cond (t := true) rfl (fun _ => ?_) (fun hx => by rw [(rfl : true = true)] at hx; cases hx)
        refine WC_seq ?_
        refine WC_region ?_
        refine WL_val gd0 ((o_assign (v := .bool false) rfl) _) rfl ?_
        refine WL_nil ?_
        refine nrm ?_
        refine WC_ret ?_
        refine rtT ?_
        refine rtE ?_
        exact gv1 rfl rfl h
      · rw [if_neg (of_decide_eq_false hb20)] at h
        refine WL_val (gdY (b := (decide (x18 < 0))) 16 rfl rfl hb20) ((o_fieldAddr 3 Try.underlying34 rfl Try.sizeOf3 rfl rfl rfl) _) rfl ?_
        obtain ⟨x21, hc22, h⟩ := h
        refine WL_val (gdY (b := (decide (x18 < 0))) 16 rfl rfl hb20) (o_load Try.isAgg3 rfl hc22) rfl ?_
        refine WL_val (gdY (b := (decide (x18 < 0))) 16 rfl rfl hb20) ((o_gtr rfl rfl) _) rfl ?_
        refine WL_val gd0 ((o_pickF (v := .bool (decide (3 < x21))) rfl hb20 rfl) _) rfl ?_
        refine WL_val gd0 ((o_move (v := .bool (decide (3 < x21))) rfl) _) rfl ?_
        refine bsplit (decide (3 < x21)) (fun hb23 => ?_) (fun hb23 => ?_)
        · rw [if_pos (of_decide_eq_true hb23)] at h
          refine WL_skip (gdN (b := (decide (3 < x21))) 21 rfl rfl hb23) rfl ?_
          refine WL_skip (gdN (b := (decide (3 < x21))) 21 rfl rfl hb23) rfl ?_
          refine WL_skip (gdN (b := (decide (3 < x21))) 21 rfl rfl hb23) rfl ?_
          refine WL_val gd0 ((o_pickT (v := .bool true) rfl hb23 rfl) _) rfl ?_
          refine WL_val gd0 ((o_move (v := .bool true) rfl) _) rfl ?_
          refine WL_skip (gdN (b := true) 26 rfl rfl rfl) rfl ?_
          refine WL_skip (gdN (b := true) 26 rfl rfl rfl) rfl ?_
          refine WL_skip (gdN (b := true) 26 rfl rfl rfl) rfl ?_
          refine WL_val gd0 ((o_pickT (v := .bool true) rfl rfl rfl) _) rfl ?_
          refine WL_nil ?_
          refine nrm ?_
          refine WC_cond (t := true) rfl (fun _ => ?_) (fun hx => by rw [(rfl : true = true)] at hx; cases hx)
          refine WC_seq ?_
          refine WC_region ?_
          refine WL_val gd0 ((o_assign (v := .bool false) rfl) _) rfl ?_
          refine WL_nil ?_
          refine nrm ?_
          refine WC_ret ?_
          refine rtT ?_
          refine rtE ?_
          exact gv1 rfl rfl h
        · rw [if_neg (of_decide_eq_false hb23)] at h
          refine WL_val (gdY (b := (decide (3 < x21))) 21 rfl rfl hb23) ((o_fieldAddr 4 Try.underlying34 rfl Try.sizeOf3 rfl rfl rfl) _) rfl ?_
          obtain ⟨x24, hc25, h⟩ := h
          refine WL_val (gdY (b := (decide (3 < x21))) 21 rfl rfl hb23) (o_load Try.isAgg3 rfl hc25) rfl ?_
          refine WL_val (gdY (b := (decide (3 < x21))) 21 rfl rfl hb23) ((o_lss rfl rfl) _) rfl ?_
          refine WL_val gd0 ((o_pickF (v := .bool (decide (x24 < 0))) rfl hb23 rfl) _) rfl ?_
          refine WL_val gd0 ((o_move (v := .bool (decide (x24 < 0))) rfl) _) rfl ?_
          refine bsplit (decide (x24 < 0)) (fun hb26 => ?_) (fun hb26 => ?_)
          · rw [if_pos (of_decide_eq_true hb26)] at h
            refine WL_skip (gdN (b := (decide (x24 < 0))) 26 rfl rfl hb26) rfl ?_
            refine WL_skip (gdN (b := (decide (x24 < 0))) 26 rfl rfl hb26) rfl ?_
            refine WL_skip (gdN (b := (decide (x24 < 0))) 26 rfl rfl hb26) rfl ?_
            refine WL_val gd0 ((o_pickT (v := .bool true) rfl hb26 rfl) _) rfl ?_
            refine WL_nil ?_
            refine nrm ?_
            refine WC_cond (t := true) rfl (fun _ => ?_) (fun hx => by rw [(rfl : true = true)] at hx; cases hx)
            refine WC_seq ?_
            refine WC_region ?_
            refine WL_val gd0 ((o_assign (v := .bool false) rfl) _) rfl ?_
            refine WL_nil ?_
            refine nrm ?_
            refine WC_ret ?_
            refine rtT ?_
            refine rtE ?_
            exact gv1 rfl rfl h
          · rw [if_neg (of_decide_eq_false hb26)] at h
            refine WL_val (gdY (b := (decide (x24 < 0))) 26 rfl rfl hb26) ((o_fieldAddr 4 Try.underlying34 rfl Try.sizeOf3 rfl rfl rfl) _) rfl ?_
            obtain ⟨x27, hc28, h⟩ := h
            refine WL_val (gdY (b := (decide (x24 < 0))) 26 rfl rfl hb26) (o_load Try.isAgg3 rfl hc28) rfl ?_
            refine WL_val (gdY (b := (decide (x24 < 0))) 26 rfl rfl hb26) ((o_gtr rfl rfl) _) rfl ?_
            refine WL_val gd0 ((o_pickF (v := .bool (decide (16383 < x27))) rfl hb26 rfl) _) rfl ?_
            refine WL_nil ?_
            refine nrm ?_
            refine WC_cond (t := (decide (16383 < x27))) rfl (fun hb29 => ?_) (fun hb29 => ?_)
            · rw [if_pos (of_decide_eq_true hb29)] at h
              refine WC_seq ?_
              refine WC_region ?_
              refine WL_val gd0 ((o_assign (v := .bool false) rfl) _) rfl ?_
              refine WL_nil ?_
              refine nrm ?_
              refine WC_ret ?_
              refine rtT ?_
              refine rtE ?_
              exact gv1 rfl rfl h
            · rw [if_neg (of_decide_eq_false hb29)] at h
              refine WC_skip ?_
              refine nrm ?_
              refine WC_seq ?_
              refine WC_seq ?_
              refine WC_region ?_
              refine WL_val gd0 ((o_fieldAddr 5 Try.underlying34 rfl Try.sizeOf29 rfl rfl rfl) _) rfl ?_
              obtain ⟨x_a30, x_n31, x_c32, hc33, h⟩ := h
              refine WL_val gd0 (o_load Try.isAgg29 rfl hc33) rfl ?_
              refine WL_val gd0 ((o_len Try.underlying29 rfl) _) rfl ?_
              refine WL_val gd0 ((o_lss rfl rfl) _) rfl ?_
              refine WL_val gd0 ((o_move (v := .bool (decide ((x_n31 : Int) < 1))) rfl) _) rfl ?_
              refine bsplit (decide ((x_n31 : Int) < 1)) (fun hb34 => ?_) (fun hb34 => ?_)
              · rw [if_pos (of_decide_eq_true hb34)] at h
                refine WL_skip (gdN (b := (decide ((x_n31 : Int) < 1))) 35 rfl rfl hb34) rfl ?_
                refine WL_skip (gdN (b := (decide ((x_n31 : Int) < 1))) 35 rfl rfl hb34) rfl ?_
                refine WL_skip (gdN (b := (decide ((x_n31 : Int) < 1))) 35 rfl rfl hb34) rfl ?_
                refine WL_skip (gdN (b := (decide ((x_n31 : Int) < 1))) 35 rfl rfl hb34) rfl ?_
                refine WL_val gd0 ((o_pickT (v := .bool true) rfl hb34 rfl) _) rfl ?_
                refine WL_nil ?_
                refine nrm ?_
                refine WC_cond (t := true) rfl (fun _ => ?_) (fun hx => by rw [(rfl : true = true)] at hx; cases hx)
                refine WC_seq ?_
                refine WC_region ?_
                refine WL_val gd0 ((o_assign (v := .bool false) rfl) _) rfl ?_
                refine WL_nil ?_
                refine nrm ?_
                refine WC_ret ?_
                refine rtT ?_
                refine rtE ?_
                exact gv1 rfl rfl h
              · rw [if_neg (of_decide_eq_false hb34)] at h
                refine WL_val (gdY (b := (decide ((x_n31 : Int) < 1))) 35 rfl rfl hb34) ((o_fieldAddr 5 Try.underlying34 rfl Try.sizeOf29 rfl rfl rfl) _) rfl ?_
                obtain ⟨x_a35, x_n36, x_c37, hc38, h⟩ := h
                refine WL_val (gdY (b := (decide ((x_n31 : Int) < 1))) 35 rfl rfl hb34) (o_load Try.isAgg29 rfl hc38) rfl ?_
                refine WL_val (gdY (b := (decide ((x_n31 : Int) < 1))) 35 rfl rfl hb34) ((o_len Try.underlying29 rfl) _) rfl ?_
                refine WL_val (gdY (b := (decide ((x_n31 : Int) < 1))) 35 rfl rfl hb34) ((o_gtr rfl rfl) _) rfl ?_
                refine WL_val gd0 ((o_pickF (v := .bool (decide (4090 < (x_n36 : Int)))) rfl hb34 rfl) _) rfl ?_
                refine WL_nil ?_
                refine nrm ?_
                refine WC_cond (t := (decide (4090 < (x_n36 : Int)))) rfl (fun hb39 => ?_) (fun hb39 => ?_)
                · rw [if_pos (of_decide_eq_true hb39)] at h
                  refine WC_seq ?_
                  refine WC_region ?_
                  refine WL_val gd0 ((o_assign (v := .bool false) rfl) _) rfl ?_
                  refine WL_nil ?_
                  refine nrm ?_
                  refine WC_ret ?_
                  refine rtT ?_
                  refine rtE ?_
                  exact gv1 rfl rfl h
                · rw [if_neg (of_decide_eq_false hb39)] at h
                  refine WC_skip ?_
                  refine nrm ?_
                  refine WC_seq ?_
                  refine WC_region ?_
                  refine WL_val gd0 ((o_fieldAddr 2 Try.underlying34 rfl Try.sizeOf3 rfl rfl rfl) _) rfl ?_
                  obtain ⟨x40, hc41, h⟩ := h
                  refine WL_val gd0 (o_load Try.isAgg3 rfl hc41) rfl ?_
                  refine WL_val gd0 ((o_neq rfl rfl) _) rfl ?_
                  refine WL_val gd0 ((o_move (v := .bool (decide (x40 ≠ 2047))) rfl) _) rfl ?_
                  refine bsplit (decide (x40 ≠ 2047)) (fun hb42 => ?_) (fun hb42 => ?_)
                  · rw [if_pos (of_decide_eq_true hb42)] at h
                    refine WL_skip (gdN (b := (decide (x40 ≠ 2047))) 44 rfl rfl hb42) rfl ?_
                    refine WL_skip (gdN (b := (decide (x40 ≠ 2047))) 44 rfl rfl hb42) rfl ?_
                    refine WL_val gd0 ((o_pickT (v := .bool true) rfl hb42 rfl) _) rfl ?_
                    refine WL_val gd0 ((o_assign (v := .bool true) rfl) _) rfl ?_
                    refine WL_nil ?_
                    refine nrm ?_
                    refine WC_ret ?_
                    refine rtE ?_
                    exact gv1 rfl rfl h
                  · rw [if_neg (of_decide_eq_false hb42)] at h
                    obtain ⟨x43, x44, x45, x46, x47, x_a48, x_n49, x_c50, hc51, h⟩ := h
                    refine WL_val (gdY (b := (decide (x40 ≠ 2047))) 44 rfl rfl hb42) (o_loadAgg (vs := [.bool x43, .bool x44, .int .i64 x45, .int .i64 x46, .int .i64 x47, .slice x_a48 x_n49 x_c50]) Try.isAgg34 Try.sizeOf34 rfl hc51) rfl ?_
                    refine WL_call (gdY (b := (decide (x40 ≠ 2047))) 44 rfl rfl hb42) (o_call Try.call24 (argCons rfl argNil) _) rfl (h.mono ?_)
                    rintro _ w52 ⟨x53, rfl, h⟩
                    refine WL_val gd0 ((o_pickF (v := .bool x53) rfl hb42 rfl) _) rfl ?_
                    refine WL_val gd0 ((o_assign (v := .bool x53) rfl) _) rfl ?_
                    refine WL_nil ?_
                    refine nrm ?_
                    refine WC_ret ?_
                    refine rtE ?_
                    exact gv1 rfl rfl h

/-- spacecraft packet.flag -/
def F13 (on1 : Bool) (value2 : Int) (w3 : World) (k : Value → World → Prop) : Prop :=
  if on1 = true then
  k (.int .i64 value2) w3
else
  k (.int .i64 0) w3
set_option maxRecDepth 100000 in
set_option maxHeartbeats 2000000 in
theorem w13 (on1 : Bool) (value2 : Int) (w3 : World) (k : Value → World → Prop) (h : F13 on1 value2 w3 k) : Does Try.prog 13 #[.bool on1, .int .i64 value2] w3 k := by
  refine enter 7 Try.func13 rfl rfl rfl ?_
  intro ρ hρ
  have e0 := hρ 0 _ rfl
  have e1 := hρ 1 _ rfl
  unfold F13 at h
  refine WC_seq ?_
  refine WC_region ?_
  refine WL_val gd0 ((o_assign (v := .int .i64 0) rfl) _) rfl ?_
  refine WL_nil ?_
  refine nrm ?_
  refine WC_seq ?_
  refine WC_seq ?_
  refine WC_region ?_
  refine WL_val gd0 ((o_move (v := .bool on1) (by exact e0)) _) rfl ?_
  refine WL_nil ?_
  refine nrm ?_
  refine WC_cond (t := on1) rfl (fun hb4 => ?_) (fun hb4 => ?_)
  · rw [if_pos hb4] at h
    refine WC_seq ?_
    refine WC_region ?_
    refine WL_val gd0 ((o_move (v := .int .i64 value2) (by exact e1)) _) rfl ?_
    refine WL_val gd0 ((o_assign (v := .int .i64 value2) rfl) _) rfl ?_
    refine WL_nil ?_
    refine nrm ?_
    refine WC_ret ?_
    refine rtT ?_
    refine rtE ?_
    exact gv1 rfl rfl h
  · rw [if_neg (neT hb4)] at h
    refine WC_skip ?_
    refine nrm ?_
    refine WC_seq ?_
    refine WC_region ?_
    refine WL_val gd0 ((o_assign (v := .int .i64 0) rfl) _) rfl ?_
    refine WL_nil ?_
    refine nrm ?_
    refine WC_ret ?_
    refine rtE ?_
    exact gv1 rfl rfl h

/-- (*spacecraft packer.Packer).none -/
def F14 (p1 : Option Addr) (w2 : World) (k : Value → World → Prop) : Prop :=
  if (p1).isNone = true then
  k (.bool true) w2
else
  ∃ (p4 : Addr), p1 = some p4 ∧ ∃ (x6 : Int), w2.cell? p4 = some (.int .i64 x6) ∧ k (.bool (decide (x6 = 0))) w2
set_option maxRecDepth 100000 in
set_option maxHeartbeats 2000000 in
theorem w14 (p1 : Option Addr) (w2 : World) (k : Value → World → Prop) (h : F14 p1 w2 k) : Does Try.prog 14 #[.pointer p1] w2 k := by
  refine enter 12 Try.func14 rfl rfl rfl ?_
  intro ρ hρ
  have e0 := hρ 0 _ rfl
  unfold F14 at h
  refine WC_seq ?_
  refine WC_region ?_
  refine WL_val gd0 ((o_assign (v := .bool false) rfl) _) rfl ?_
  refine WL_nil ?_
  refine nrm ?_
  refine WC_seq ?_
  refine WC_region ?_
  refine WL_val gd0 ((o_move (v := .pointer p1) (by exact e0)) _) rfl ?_
  refine WL_val gd0 ((o_eqlPtrNil Try.underlying24 rfl rfl) _) rfl ?_
  refine WL_val gd0 ((o_move (v := .bool ((p1).isNone)) rfl) _) rfl ?_
  refine bsplit ((p1).isNone) (fun hb3 => ?_) (fun hb3 => ?_)
  · rw [if_pos hb3] at h
    refine WL_skip (gdN (b := ((p1).isNone)) 5 rfl rfl hb3) rfl ?_
    refine WL_skip (gdN (b := ((p1).isNone)) 5 rfl rfl hb3) rfl ?_
    refine WL_skip (gdN (b := ((p1).isNone)) 5 rfl rfl hb3) rfl ?_
    refine WL_skip (gdN (b := ((p1).isNone)) 5 rfl rfl hb3) rfl ?_
    refine WL_skip (gdN (b := ((p1).isNone)) 5 rfl rfl hb3) rfl ?_
    refine WL_val gd0 ((o_pickT (v := .bool true) rfl hb3 rfl) _) rfl ?_
    refine WL_val gd0 ((o_assign (v := .bool true) rfl) _) rfl ?_
    refine WL_nil ?_
    refine nrm ?_
    refine WC_ret ?_
    refine rtE ?_
    exact gv1 rfl rfl h
  · rw [if_neg (neT hb3)] at h
    refine WL_val (gdY (b := ((p1).isNone)) 5 rfl rfl hb3) ((o_move (v := .pointer p1) (by exact e0)) _) rfl ?_
    obtain ⟨p4, q5, h⟩ := h
    refine WL_val (gdY (b := ((p1).isNone)) 5 rfl rfl hb3) ((o_nilCheck (by exact (congrArg Value.pointer q5))) _) rfl ?_
    refine WL_val (gdY (b := ((p1).isNone)) 5 rfl rfl hb3) ((o_fieldAddr0 Try.underlying43 rfl Try.sizeOf3 rfl rfl rfl) _) rfl ?_
    obtain ⟨x6, hc7, h⟩ := h
    refine WL_val (gdY (b := ((p1).isNone)) 5 rfl rfl hb3) (o_load Try.isAgg3 rfl hc7) rfl ?_
    refine WL_val (gdY (b := ((p1).isNone)) 5 rfl rfl hb3) ((o_eql rfl rfl) _) rfl ?_
    refine WL_val gd0 ((o_pickF (v := .bool (decide (x6 = 0))) rfl hb3 rfl) _) rfl ?_
    refine WL_val gd0 ((o_assign (v := .bool (decide (x6 = 0))) rfl) _) rfl ?_
    refine WL_nil ?_
    refine nrm ?_
    refine WC_ret ?_
    refine rtE ?_
    exact gv1 rfl rfl h

/-- spacecraft packet.Decode -/
def F15 (b_a1 : Option Addr) (b_n2 : Nat) (b_c3 : Nat) (w4 : World) (k : Value → World → Prop) : Prop :=
  New w4 34 [.bool false, .bool false, .int .i64 0, .int .i64 0, .int .i64 0, .slice none 0 0] (fun p5 w6 => Does Try.prog 25 #[.slice b_a1 b_n2 b_c3] w6 (fun v w7 => ∃ (r8 r9 : Int), v = .tuple #[.int .i64 r8, .int .i64 r9] ∧ if r9 ≠ 0 then
  PutAll w7 p5 [.bool false, .bool false, .int .i64 0, .int .i64 0, .int .i64 0, .slice none 0 0] (fun w11 => ∃ (r13 r14 : Bool) (r15 r16 r17 : Int) (r_a18 : Option Addr) (r_n19 r_c20 : Nat), Cells w11 p5 0 [.bool r13, .bool r14, .int .i64 r15, .int .i64 r16, .int .i64 r17, .slice r_a18 r_n19 r_c20] ∧ k (.tuple #[.agg #[.bool r13, .bool r14, .int .i64 r15, .int .i64 r16, .int .i64 r17, .slice r_a18 r_n19 r_c20], .int .i64 0, .int .i64 r9]) w11)
else
  if (b_n2 : Int) < r8 then
    PutAll w7 p5 [.bool false, .bool false, .int .i64 0, .int .i64 0, .int .i64 0, .slice none 0 0] (fun w23 => ∃ (r25 r26 : Bool) (r27 r28 r29 : Int) (r_a30 : Option Addr) (r_n31 r_c32 : Nat), Cells w23 p5 0 [.bool r25, .bool r26, .int .i64 r27, .int .i64 r28, .int .i64 r29, .slice r_a30 r_n31 r_c32] ∧ k (.tuple #[.agg #[.bool r25, .bool r26, .int .i64 r27, .int .i64 r28, .int .i64 r29, .slice r_a30 r_n31 r_c32], .int .i64 0, .int .i64 3]) w23)
  else
    (0 : Int) ≤ 2 ∧ 2 ≤ (b_n2 : Int) ∧ Does Try.prog 26 #[.slice b_a1 b_n2 b_c3] w7.drew (fun v w36 => ∃ (x37 : Int), v = .int .i64 x37 ∧ Does Try.prog 26 #[.slice (cutA b_a1 b_c3 ((2 : Int).toNat) 1) (b_n2 - (2 : Int).toNat) (b_c3 - (2 : Int).toNat)] w36 (fun v w38 => ∃ (x39 : Int), v = .int .i64 x39 ∧ (0 : Int) ≤ 6 ∧ 6 ≤ (r8 : Int) ∧ r8 ≤ (r8 : Int) ∧ r8 ≤ (b_c3 : Int) ∧ Does Try.prog 16 #[.slice (cutA b_a1 r8.toNat ((6 : Int).toNat) 1) (r8.toNat - (6 : Int).toNat) (r8.toNat - (6 : Int).toNat)] w38 (fun v w44 => ∃ (x_a45 : Option Addr) (x_n46 x_c47 : Nat), v = .slice x_a45 x_n46 x_c47 ∧ New w44 34 [.bool false, .bool false, .int .i64 0, .int .i64 0, .int .i64 0, .slice none 0 0] (fun p48 w49 => PutAll w49 p48 [.bool (decide ((band .i64 x37 4096) ≠ 0)), .bool (decide ((band .i64 x37 2048) ≠ 0)), .int .i64 (band .i64 x37 2047), .int .i64 (shr .i64 x39 14), .int .i64 (band .i64 x39 16383), .slice x_a45 x_n46 x_c47] (fun w50 => ∃ (x52 x53 : Bool) (x54 x55 x56 : Int) (x_a57 : Option Addr) (x_n58 x_c59 : Nat), Cells w50 p48 0 [.bool x52, .bool x53, .int .i64 x54, .int .i64 x55, .int .i64 x56, .slice x_a57 x_n58 x_c59] ∧ Does Try.prog 12 #[.agg #[.bool x52, .bool x53, .int .i64 x54, .int .i64 x55, .int .i64 x56, .slice x_a57 x_n58 x_c59]] w50 (fun v w61 => ∃ (x62 : Bool), v = .bool x62 ∧ if (!x62) = true then
      PutAll w61 p5 [.bool false, .bool false, .int .i64 0, .int .i64 0, .int .i64 0, .slice none 0 0] (fun w64 => ∃ (r66 r67 : Bool) (r68 r69 r70 : Int) (r_a71 : Option Addr) (r_n72 r_c73 : Nat), Cells w64 p5 0 [.bool r66, .bool r67, .int .i64 r68, .int .i64 r69, .int .i64 r70, .slice r_a71 r_n72 r_c73] ∧ k (.tuple #[.agg #[.bool r66, .bool r67, .int .i64 r68, .int .i64 r69, .int .i64 r70, .slice r_a71 r_n72 r_c73], .int .i64 0, .int .i64 4]) w64)
    else
      ∃ (x75 x76 : Bool) (x77 x78 x79 : Int) (x_a80 : Option Addr) (x_n81 x_c82 : Nat), Cells w61 p48 0 [.bool x75, .bool x76, .int .i64 x77, .int .i64 x78, .int .i64 x79, .slice x_a80 x_n81 x_c82] ∧ PutAll w61 p5 [.bool x75, .bool x76, .int .i64 x77, .int .i64 x78, .int .i64 x79, .slice x_a80 x_n81 x_c82] (fun w84 => ∃ (r86 r87 : Bool) (r88 r89 r90 : Int) (r_a91 : Option Addr) (r_n92 r_c93 : Nat), Cells w84 p5 0 [.bool r86, .bool r87, .int .i64 r88, .int .i64 r89, .int .i64 r90, .slice r_a91 r_n92 r_c93] ∧ k (.tuple #[.agg #[.bool r86, .bool r87, .int .i64 r88, .int .i64 r89, .int .i64 r90, .slice r_a91 r_n92 r_c93], .int .i64 r8, .int .i64 0]) w84)))))))))
set_option maxRecDepth 100000 in
set_option maxHeartbeats 2000000 in
theorem w15 (b_a1 : Option Addr) (b_n2 : Nat) (b_c3 : Nat) (w4 : World) (k : Value → World → Prop) (h : F15 b_a1 b_n2 b_c3 w4 k) : Does Try.prog 15 #[.slice b_a1 b_n2 b_c3] w4 k := by
  refine enter 53 Try.func15 rfl rfl rfl ?_
  intro ρ hρ
  have e0 := hρ 0 _ rfl
  unfold F15 at h
  refine WC_seq ?_
  refine WC_region ?_
  have h := New.out h
  refine WL_val gd0 (o_alloc (z := .agg #[.bool false, .bool false, .int .i64 0, .int .i64 0, .int .i64 0, .slice none 0 0]) (cs := [.bool false, .bool false, .int .i64 0, .int .i64 0, .int .i64 0, .slice none 0 0]) Try.zeroValue34 rfl) rfl ?_
  generalize hp5 : fresh w4 = p5 at h ⊢
  generalize hw6 : push w4 34 [.bool false, .bool false, .int .i64 0, .int .i64 0, .int .i64 0, .slice none 0 0] = w6 at h ⊢
  try dsimp only at h
  refine WL_val gd0 ((o_assign (v := .int .i64 0) rfl) _) rfl ?_
  refine WL_val gd0 ((o_assign (v := .int .i64 0) rfl) _) rfl ?_
  refine WL_nil ?_
  refine nrm ?_
  refine WC_seq ?_
  refine WC_region ?_
  refine WL_val gd0 ((o_move (v := .slice b_a1 b_n2 b_c3) (by exact e0)) _) rfl ?_
  refine WL_call gd0 (o_call Try.call25 (argCons rfl argNil) _) rfl (h.mono ?_)
  rintro _ w7 ⟨r8, r9, rfl, h⟩
  refine WL_val gd0 ((o_move (v := .tuple #[.int .i64 r8, .int .i64 r9]) rfl) _) rfl ?_
  refine WL_val gd0 ((o_extract (vs := [.int .i64 r8, .int .i64 r9]) (r := .int .i64 r8) rfl rfl) _) rfl ?_
  refine WL_val gd0 ((o_extract (vs := [.int .i64 r8, .int .i64 r9]) (r := .int .i64 r9) rfl rfl) _) rfl ?_
  refine WL_val gd0 ((o_assign (v := .int .i64 r8) rfl) _) rfl ?_
  refine WL_val gd0 ((o_assign (v := .int .i64 r9) rfl) _) rfl ?_
  refine WL_nil ?_
  refine nrm ?_
  refine WC_seq ?_
  refine WC_seq ?_
  refine WC_region ?_
  refine WL_val gd0 ((o_move (v := .int .i64 r9) rfl) _) rfl ?_
  refine WL_val gd0 ((o_neq rfl rfl) _) rfl ?_
  refine WL_nil ?_
  refine nrm ?_
  refine WC_cond (t := (decide (r9 ≠ 0))) rfl (fun hb10 => ?_) (fun hb10 => ?_)
  · rw [if_pos (of_decide_eq_true hb10)] at h
    refine WC_seq ?_
    refine WC_region ?_
    refine WL_val gd0 ((o_build (ps := []) (v := .agg #[.bool false, .bool false, .int .i64 0, .int .i64 0, .int .i64 0, .slice none 0 0]) partNil (fun w => by kernel_rfl)) _) rfl ?_
    refine WL_val gd0 ((o_move (v := .int .i64 r9) rfl) _) rfl ?_
    obtain ⟨c12, h⟩ := h
    refine WL_act gd0 (o_storeAgg (vs := [.bool false, .bool false, .int .i64 0, .int .i64 0, .int .i64 0, .slice none 0 0]) Try.sizeOf34 rfl rfl rfl c12) ?_
    generalize hw11 : setAll w7 p5 0 [.bool false, .bool false, .int .i64 0, .int .i64 0, .int .i64 0, .slice none 0 0] = w11 at h ⊢
    try dsimp only at h
    refine WL_val gd0 ((o_assign (v := .int .i64 0) rfl) _) rfl ?_
    refine WL_val gd0 ((o_assign (v := .int .i64 r9) rfl) _) rfl ?_
    refine WL_nil ?_
    refine nrm ?_
    refine WC_ret ?_
    refine rtT ?_
    refine rtE ?_
    obtain ⟨r13, r14, r15, r16, r17, r_a18, r_n19, r_c20, hc21, h⟩ := h
    exact gvC2 (vs := [.bool r13, .bool r14, .int .i64 r15, .int .i64 r16, .int .i64 r17, .slice r_a18 r_n19 r_c20]) rfl Try.isAgg34 Try.sizeOf34 rfl hc21 rfl rfl h
  · rw [if_neg (of_decide_eq_false hb10)] at h
    refine WC_skip ?_
    refine nrm ?_
    refine WC_seq ?_
    refine WC_seq ?_
    refine WC_region ?_
    refine WL_val gd0 ((o_move (v := .slice b_a1 b_n2 b_c3) (by exact e0)) _) rfl ?_
    refine WL_val gd0 ((o_len Try.underlying29 rfl) _) rfl ?_
    refine WL_val gd0 ((o_move (v := .int .i64 r8) rfl) _) rfl ?_
    refine WL_val gd0 ((o_lss rfl rfl) _) rfl ?_
    refine WL_nil ?_
    refine nrm ?_
    refine WC_cond (t := (decide ((b_n2 : Int) < r8))) rfl (fun hb22 => ?_) (fun hb22 => ?_)
    · rw [if_pos (of_decide_eq_true hb22)] at h
      refine WC_seq ?_
      refine WC_region ?_
      refine WL_val gd0 ((o_build (ps := []) (v := .agg #[.bool false, .bool false, .int .i64 0, .int .i64 0, .int .i64 0, .slice none 0 0]) partNil (fun w => by kernel_rfl)) _) rfl ?_
      obtain ⟨c24, h⟩ := h
      refine WL_act gd0 (o_storeAgg (vs := [.bool false, .bool false, .int .i64 0, .int .i64 0, .int .i64 0, .slice none 0 0]) Try.sizeOf34 rfl rfl rfl c24) ?_
      generalize hw23 : setAll w7 p5 0 [.bool false, .bool false, .int .i64 0, .int .i64 0, .int .i64 0, .slice none 0 0] = w23 at h ⊢
      try dsimp only at h
      refine WL_val gd0 ((o_assign (v := .int .i64 0) rfl) _) rfl ?_
      refine WL_val gd0 ((o_assign (v := .int .i64 3) rfl) _) rfl ?_
      refine WL_nil ?_
      refine nrm ?_
      refine WC_ret ?_
      refine rtT ?_
      refine rtE ?_
      obtain ⟨r25, r26, r27, r28, r29, r_a30, r_n31, r_c32, hc33, h⟩ := h
      exact gvC2 (vs := [.bool r25, .bool r26, .int .i64 r27, .int .i64 r28, .int .i64 r29, .slice r_a30 r_n31 r_c32]) rfl Try.isAgg34 Try.sizeOf34 rfl hc33 rfl rfl h
    · rw [if_neg (of_decide_eq_false hb22)] at h
      refine WC_skip ?_
      refine nrm ?_
      refine WC_seq ?_
      refine WC_draws [1, 4] (.look 0 (.look 2 (.look 3 (.act 1 (.act 4 (.look 5 (.look 6 .nil))))))) Try.mixed (by kernel_rfl) ?_
      refine WQ_val rfl gd0 (o_move (v := .slice b_a1 b_n2 b_c3) (by exact e0)) rfl ?_
      refine WQ_val rfl gd0 (o_move (v := .slice b_a1 b_n2 b_c3) (by exact e0)) rfl ?_
      obtain ⟨c34, c35, h⟩ := h
      refine WQ_val rfl gd0 (o_sliceL Try.underlying29 Try.sizeOf5 rfl rfl c34 c35) rfl ?_
      refine WQ_call rfl gd0 (o_call Try.call26 (argCons rfl argNil) _) rfl (h.mono ?_)
      rintro _ w36 ⟨x37, rfl, h⟩
      refine ⟨trivial, ?_⟩
      refine WQ_call rfl gd0 (o_call Try.call26 (argCons rfl argNil) _) rfl (h.mono ?_)
      rintro _ w38 ⟨x39, rfl, h⟩
      refine ⟨trivial, ?_⟩
      refine WQ_val rfl gd0 (o_assign (v := .int .i64 x37) rfl) rfl ?_
      refine WQ_val rfl gd0 (o_assign (v := .int .i64 x39) rfl) rfl ?_
      refine WQ_nil ?_
      refine nrm ?_
      refine WC_seq ?_
      refine WC_region ?_
      refine WL_val gd0 ((o_move (v := .int .i64 x37) rfl) _) rfl ?_
      refine WL_val gd0 ((o_and rfl rfl) _) rfl ?_
      refine WL_val gd0 ((o_neq rfl rfl) _) rfl ?_
      refine WL_val gd0 ((o_move (v := .int .i64 x37) rfl) _) rfl ?_
      refine WL_val gd0 ((o_and rfl rfl) _) rfl ?_
      refine WL_val gd0 ((o_neq rfl rfl) _) rfl ?_
      refine WL_val gd0 ((o_move (v := .int .i64 x37) rfl) _) rfl ?_
      refine WL_val gd0 ((o_and rfl rfl) _) rfl ?_
      refine WL_val gd0 ((o_move (v := .int .i64 x39) rfl) _) rfl ?_
      refine WL_val gd0 ((o_shr rfl rfl (by decide)) _) rfl ?_
      refine WL_val gd0 ((o_move (v := .int .i64 x39) rfl) _) rfl ?_
      refine WL_val gd0 ((o_and rfl rfl) _) rfl ?_
      refine WL_val gd0 ((o_move (v := .slice b_a1 b_n2 b_c3) (by exact e0)) _) rfl ?_
      refine WL_val gd0 ((o_move (v := .int .i64 r8) rfl) _) rfl ?_
      refine WL_val gd0 ((o_move (v := .int .i64 r8) rfl) _) rfl ?_
      obtain ⟨c40, c41, c42, c43, h⟩ := h
      refine WL_val gd0 ((o_sliceLHM Try.underlying29 Try.sizeOf5 rfl rfl rfl rfl c40 c41 c42 c43) _) rfl ?_
      refine WL_call gd0 (o_call Try.call16 (argCons rfl argNil) _) rfl (h.mono ?_)
      rintro _ w44 ⟨x_a45, x_n46, x_c47, rfl, h⟩
      refine WL_val gd0 ((o_build (ps := [(0, .bool (decide ((band .i64 x37 4096) ≠ 0))), (1, .bool (decide ((band .i64 x37 2048) ≠ 0))), (2, .int .i64 (band .i64 x37 2047)), (3, .int .i64 (shr .i64 x39 14)), (4, .int .i64 (band .i64 x39 16383)), (5, .slice x_a45 x_n46 x_c47)]) (v := .agg #[.bool (decide ((band .i64 x37 4096) ≠ 0)), .bool (decide ((band .i64 x37 2048) ≠ 0)), .int .i64 (band .i64 x37 2047), .int .i64 (shr .i64 x39 14), .int .i64 (band .i64 x39 16383), .slice x_a45 x_n46 x_c47]) (partCons rfl (partCons rfl (partCons rfl (partCons rfl (partCons rfl (partCons rfl partNil)))))) (fun w => by kernel_rfl)) _) rfl ?_
      have h := New.out h
      refine WL_val gd0 (o_alloc (z := .agg #[.bool false, .bool false, .int .i64 0, .int .i64 0, .int .i64 0, .slice none 0 0]) (cs := [.bool false, .bool false, .int .i64 0, .int .i64 0, .int .i64 0, .slice none 0 0]) Try.zeroValue34 rfl) rfl ?_
      generalize hp48 : fresh w44 = p48 at h ⊢
      generalize hw49 : push w44 34 [.bool false, .bool false, .int .i64 0, .int .i64 0, .int .i64 0, .slice none 0 0] = w49 at h ⊢
      try dsimp only at h
      obtain ⟨c51, h⟩ := h
      refine WL_act gd0 (o_storeAgg (vs := [.bool (decide ((band .i64 x37 4096) ≠ 0)), .bool (decide ((band .i64 x37 2048) ≠ 0)), .int .i64 (band .i64 x37 2047), .int .i64 (shr .i64 x39 14), .int .i64 (band .i64 x39 16383), .slice x_a45 x_n46 x_c47]) Try.sizeOf34 rfl rfl rfl c51) ?_
      generalize hw50 : setAll w49 p48 0 [.bool (decide ((band .i64 x37 4096) ≠ 0)), .bool (decide ((band .i64 x37 2048) ≠ 0)), .int .i64 (band .i64 x37 2047), .int .i64 (shr .i64 x39 14), .int .i64 (band .i64 x39 16383), .slice x_a45 x_n46 x_c47] = w50 at h ⊢
      try dsimp only at h
      refine WL_nil ?_
      refine nrm ?_
      refine WC_seq ?_
      refine WC_seq ?_
      refine WC_region ?_
      obtain ⟨x52, x53, x54, x55, x56, x_a57, x_n58, x_c59, hc60, h⟩ := h
      refine WL_val gd0 (o_loadAgg (vs := [.bool x52, .bool x53, .int .i64 x54, .int .i64 x55, .int .i64 x56, .slice x_a57 x_n58 x_c59]) Try.isAgg34 Try.sizeOf34 rfl hc60) rfl ?_
      refine WL_call gd0 (o_call Try.call12 (argCons rfl argNil) _) rfl (h.mono ?_)
      rintro _ w61 ⟨x62, rfl, h⟩
      refine WL_val gd0 ((o_not rfl) _) rfl ?_
      refine WL_nil ?_
      refine nrm ?_
      refine WC_cond (t := (!x62)) rfl (fun hb63 => ?_) (fun hb63 => ?_)
      · rw [if_pos hb63] at h
        refine WC_seq ?_
        refine WC_region ?_
        refine WL_val gd0 ((o_build (ps := []) (v := .agg #[.bool false, .bool false, .int .i64 0, .int .i64 0, .int .i64 0, .slice none 0 0]) partNil (fun w => by kernel_rfl)) _) rfl ?_
        obtain ⟨c65, h⟩ := h
        refine WL_act gd0 (o_storeAgg (vs := [.bool false, .bool false, .int .i64 0, .int .i64 0, .int .i64 0, .slice none 0 0]) Try.sizeOf34 rfl rfl rfl c65) ?_
        generalize hw64 : setAll w61 p5 0 [.bool false, .bool false, .int .i64 0, .int .i64 0, .int .i64 0, .slice none 0 0] = w64 at h ⊢
        try dsimp only at h
        refine WL_val gd0 ((o_assign (v := .int .i64 0) rfl) _) rfl ?_
        refine WL_val gd0 ((o_assign (v := .int .i64 4) rfl) _) rfl ?_
        refine WL_nil ?_
        refine nrm ?_
        refine WC_ret ?_
        refine rtT ?_
        refine rtE ?_
        obtain ⟨r66, r67, r68, r69, r70, r_a71, r_n72, r_c73, hc74, h⟩ := h
        exact gvC2 (vs := [.bool r66, .bool r67, .int .i64 r68, .int .i64 r69, .int .i64 r70, .slice r_a71 r_n72 r_c73]) rfl Try.isAgg34 Try.sizeOf34 rfl hc74 rfl rfl h
      · rw [if_neg (neT hb63)] at h
        refine WC_skip ?_
        refine nrm ?_
        refine WC_seq ?_
        refine WC_region ?_
        obtain ⟨x75, x76, x77, x78, x79, x_a80, x_n81, x_c82, hc83, h⟩ := h
        refine WL_val gd0 (o_loadAgg (vs := [.bool x75, .bool x76, .int .i64 x77, .int .i64 x78, .int .i64 x79, .slice x_a80 x_n81 x_c82]) Try.isAgg34 Try.sizeOf34 rfl hc83) rfl ?_
        refine WL_val gd0 ((o_move (v := .int .i64 r8) rfl) _) rfl ?_
        obtain ⟨c85, h⟩ := h
        refine WL_act gd0 (o_storeAgg (vs := [.bool x75, .bool x76, .int .i64 x77, .int .i64 x78, .int .i64 x79, .slice x_a80 x_n81 x_c82]) Try.sizeOf34 rfl rfl rfl c85) ?_
        generalize hw84 : setAll w61 p5 0 [.bool x75, .bool x76, .int .i64 x77, .int .i64 x78, .int .i64 x79, .slice x_a80 x_n81 x_c82] = w84 at h ⊢
        try dsimp only at h
        refine WL_val gd0 ((o_assign (v := .int .i64 r8) rfl) _) rfl ?_
        refine WL_val gd0 ((o_assign (v := .int .i64 0) rfl) _) rfl ?_
        refine WL_nil ?_
        refine nrm ?_
        refine WC_ret ?_
        refine rtE ?_
        obtain ⟨r86, r87, r88, r89, r90, r_a91, r_n92, r_c93, hc94, h⟩ := h
        exact gvC2 (vs := [.bool r86, .bool r87, .int .i64 r88, .int .i64 r89, .int .i64 r90, .slice r_a91 r_n92 r_c93]) rfl Try.isAgg34 Try.sizeOf34 rfl hc94 rfl rfl h

/-- bytes.Clone -/
def F16 (b_a1 : Option Addr) (b_n2 : Nat) (b_c3 : Nat) (w4 : World) (k : Value → World → Prop) : Prop :=
  if (b_a1).isNone = true then
  k (.slice none 0 0) w4
else
  New w4 5 [] (fun p6 w7 => ∃ (b_a8 : Option Addr) (b_n9 b_c10 : Nat) (w11 : World), (Builtin.append_ #[29, 29] 29 #[.slice (some p6) 0 0, .slice b_a1 b_n2 b_c3]).run Try.prog w7 = .ok (.slice b_a8 b_n9 b_c10) w11 ∧ k (.slice b_a8 b_n9 b_c10) w11)
set_option maxRecDepth 100000 in
set_option maxHeartbeats 2000000 in
theorem w16 (b_a1 : Option Addr) (b_n2 : Nat) (b_c3 : Nat) (w4 : World) (k : Value → World → Prop) (h : F16 b_a1 b_n2 b_c3 w4 k) : Does Try.prog 16 #[.slice b_a1 b_n2 b_c3] w4 k := by
  refine enter 8 Try.func16 rfl rfl rfl ?_
  intro ρ hρ
  have e0 := hρ 0 _ rfl
  unfold F16 at h
  refine WC_seq ?_
  refine WC_region ?_
  refine WL_val gd0 ((o_assign (v := .slice none 0 0) rfl) _) rfl ?_
  refine WL_nil ?_
  refine nrm ?_
  refine WC_seq ?_
  refine WC_seq ?_
  refine WC_region ?_
  refine WL_val gd0 ((o_move (v := .slice b_a1 b_n2 b_c3) (by exact e0)) _) rfl ?_
  refine WL_val gd0 ((o_eqlSliceNil Try.underlying29 rfl rfl) _) rfl ?_
  refine WL_nil ?_
  refine nrm ?_
  refine WC_cond (t := ((b_a1).isNone)) rfl (fun hb5 => ?_) (fun hb5 => ?_)
  · rw [if_pos hb5] at h
    refine WC_seq ?_
    refine WC_region ?_
    refine WL_val gd0 ((o_assign (v := .slice none 0 0) rfl) _) rfl ?_
    refine WL_nil ?_
    refine nrm ?_
    refine WC_ret ?_
    refine rtT ?_
    refine rtE ?_
    exact gv1 rfl rfl h
  · rw [if_neg (neT hb5)] at h
    refine WC_skip ?_
    refine nrm ?_
    refine WC_seq ?_
    refine WC_region ?_
    have h := New.out h
    refine WL_val gd0 (o_buildSlice (e := 5) (ps := []) (cs := []) partNil (fun w => by kernel_rfl)) rfl ?_
    generalize hp6 : fresh w4 = p6 at h ⊢
    generalize hw7 : push w4 5 [] = w7 at h ⊢
    try dsimp only at h
    refine WL_val gd0 ((o_move (v := .slice b_a1 b_n2 b_c3) (by exact e0)) _) rfl ?_
    obtain ⟨b_a8, b_n9, b_c10, w11, r12, h⟩ := h
    refine WL_val gd0 (o_append rfl rfl r12) rfl ?_
    refine WL_val gd0 ((o_assign (v := .slice b_a8 b_n9 b_c10) rfl) _) rfl ?_
    refine WL_nil ?_
    refine nrm ?_
    refine WC_ret ?_
    refine rtE ?_
    exact gv1 rfl rfl h

/-- (*spacecraft packer.Packer).take -/
def F17 (p1 : Option Addr) (most2 : Int) (w3 : World) (k : Value → World → Prop) : Prop :=
  ∃ (p4 : Addr), p1 = some p4 ∧ ∃ (x_a6 : Option Addr) (x_n7 x_c8 : Nat), w3.drew.cell? (p4.add 4) = some (.slice x_a6 x_n7 x_c8) ∧ ∃ (p12 : Addr), x_a6 = some p12 ∧ (0 : Int) ≤ 0 ∧ 0 < (x_n7 : Int) ∧ ∃ (x_a14 : Option Addr) (x_n15 x_c16 : Nat), w3.drew.cell? (p12.add ((0 : Int).toNat)) = some (.slice x_a14 x_n15 x_c16) ∧ ∃ (x18 : Int), w3.drew.cell? (p4.add 3) = some (.int .i64 x18) ∧ (0 : Int) ≤ x18 ∧ x18 ≤ (x_n15 : Int) ∧ if most2 < ((x_n15 - x18.toNat : Nat) : Int) then
  ∃ (x23 : Int), w3.drew.cell? (p4.add 3) = some (.int .i64 x23) ∧ Put w3.drew (p4.add 3) (.int .i64 (IntKind.i64.wrap (x23 + most2))) (fun w25 => ∃ (x27 : Int), w25.cell? (p4.add 2) = some (.int .i64 x27) ∧ Put w25 (p4.add 2) (.int .i64 (IntKind.i64.wrap (x27 - most2))) (fun w29 => (0 : Int) ≤ most2 ∧ most2 ≤ ((x_c16 - x18.toNat : Nat) : Int) ∧ k (.slice (cutA x_a14 x_c16 x18.toNat 1) most2.toNat (x_c16 - x18.toNat)) w29))
else
  ∃ (x_a33 : Option Addr) (x_n34 x_c35 : Nat), w3.drew.cell? (p4.add 4) = some (.slice x_a33 x_n34 x_c35) ∧ (0 : Int) ≤ 1 ∧ 1 ≤ (x_n34 : Int) ∧ Does Try.prog 27 #[.slice (cutA x_a33 x_c35 ((1 : Int).toNat) 1) (x_n34 - (1 : Int).toNat) (x_c35 - (1 : Int).toNat)] w3.drew (fun v w39 => ∃ (x_a40 : Option Addr) (x_n41 x_c42 : Nat), v = .slice x_a40 x_n41 x_c42 ∧ Put w39 (p4.add 4) (.slice x_a40 x_n41 x_c42) (fun w43 => Put w43 (p4.add 3) (.int .i64 0) (fun w45 => ∃ (x47 : Int), w45.cell? (p4.add 2) = some (.int .i64 x47) ∧ Put w45 (p4.add 2) (.int .i64 (IntKind.i64.wrap (x47 - ((x_n15 - x18.toNat : Nat) : Int)))) (fun w49 => k (.slice (cutA x_a14 x_c16 x18.toNat 1) (x_n15 - x18.toNat) (x_c16 - x18.toNat)) w49))))
set_option maxRecDepth 100000 in
set_option maxHeartbeats 2000000 in
theorem w17 (p1 : Option Addr) (most2 : Int) (w3 : World) (k : Value → World → Prop) (h : F17 p1 most2 w3 k) : Does Try.prog 17 #[.pointer p1, .int .i64 most2] w3 k := by
  refine enter 62 Try.func17 rfl rfl rfl ?_
  intro ρ hρ
  have e0 := hρ 0 _ rfl
  have e1 := hρ 1 _ rfl
  unfold F17 at h
  refine WC_seq ?_
  refine WC_region ?_
  refine WL_val gd0 ((o_assign (v := .slice none 0 0) rfl) _) rfl ?_
  refine WL_nil ?_
  refine nrm ?_
  refine WC_seq ?_
  refine WC_draws [] (.look 0 (.look 1 (.look 2 (.look 3 (.look 4 (.look 5 (.look 6 (.look 7 (.look 8 (.look 9 (.look 10 (.look 11 .nil)))))))))))) Try.mixed (by kernel_rfl) ?_
  refine WQ_val rfl gd0 (o_move (v := .pointer p1) (by exact e0)) rfl ?_
  obtain ⟨p4, q5, h⟩ := h
  refine WQ_val rfl gd0 (o_nilCheck (by exact (congrArg Value.pointer q5))) rfl ?_
  refine WQ_val rfl gd0 (o_fieldAddr 4 Try.underlying43 rfl Try.sizeOf28 rfl rfl rfl) rfl ?_
  obtain ⟨x_a6, x_n7, x_c8, hc9, h⟩ := h
  refine WQ_look (fun w => w.cell? (p4.add 4) = some (.slice x_a6 x_n7 x_c8)) rfl gd0 (fun w hc => (o_load Try.isAgg28 rfl hc)) hc9 rfl ?_
  obtain ⟨p12, q13, h⟩ := h
  obtain ⟨l10, u11, h⟩ := h
  refine WQ_val rfl gd0 (o_indexAddr1 Try.underlying28 Try.sizeOf29 (by exact (congrArg (fun z => Value.slice z x_n7 x_c8) q13)) rfl l10 u11) rfl ?_
  obtain ⟨x_a14, x_n15, x_c16, hc17, h⟩ := h
  refine WQ_look (fun w => w.cell? (p12.add ((0 : Int).toNat)) = some (.slice x_a14 x_n15 x_c16)) rfl gd0 (fun w hc => (o_load Try.isAgg29 rfl hc)) hc17 rfl ?_
  refine WQ_val rfl gd0 (o_move (v := .pointer p1) (by exact e0)) rfl ?_
  refine WQ_val rfl gd0 (o_nilCheck (by exact (congrArg Value.pointer q5))) rfl ?_
  refine WQ_val rfl gd0 (o_fieldAddr 3 Try.underlying43 rfl Try.sizeOf3 rfl rfl rfl) rfl ?_
  obtain ⟨x18, hc19, h⟩ := h
  refine WQ_look (fun w => w.cell? (p4.add 3) = some (.int .i64 x18)) rfl gd0 (fun w hc => (o_load Try.isAgg3 rfl hc)) hc19 rfl ?_
  obtain ⟨c20, c21, h⟩ := h
  refine WQ_val rfl gd0 (o_sliceL Try.underlying29 Try.sizeOf5 rfl rfl c20 c21) rfl ?_
  refine WQ_val rfl gd0 (o_assign (v := .slice (cutA x_a14 x_c16 x18.toNat 1) (x_n15 - x18.toNat) (x_c16 - x18.toNat)) rfl) rfl ?_
  refine WQ_nil ?_
  refine nrm ?_
  refine WC_seq ?_
  refine WC_seq ?_
  refine WC_region ?_
  refine WL_val gd0 ((o_move (v := .slice (cutA x_a14 x_c16 x18.toNat 1) (x_n15 - x18.toNat) (x_c16 - x18.toNat)) rfl) _) rfl ?_
  refine WL_val gd0 ((o_len Try.underlying29 rfl) _) rfl ?_
  refine WL_val gd0 ((o_move (v := .int .i64 most2) (by exact e1)) _) rfl ?_
  refine WL_val gd0 ((o_gtr rfl rfl) _) rfl ?_
  refine WL_nil ?_
  refine nrm ?_
  refine WC_cond (t := (decide (most2 < ((x_n15 - x18.toNat : Nat) : Int)))) rfl (fun hb22 => ?_) (fun hb22 => ?_)
  · rw [if_pos (of_decide_eq_true hb22)] at h
    refine WC_seq ?_
    refine WC_region ?_
    refine WL_val gd0 ((o_move (v := .pointer p1) (by exact e0)) _) rfl ?_
    refine WL_val gd0 ((o_nilCheck (by exact (congrArg Value.pointer q5))) _) rfl ?_
    refine WL_val gd0 ((o_fieldAddr 3 Try.underlying43 rfl Try.sizeOf3 rfl rfl rfl) _) rfl ?_
    obtain ⟨x23, hc24, h⟩ := h
    refine WL_val gd0 (o_load Try.isAgg3 rfl hc24) rfl ?_
    refine WL_val gd0 ((o_move (v := .int .i64 most2) (by exact e1)) _) rfl ?_
    refine WL_val gd0 ((o_add rfl rfl) _) rfl ?_
    refine WL_val gd0 ((o_nilCheck (by exact (congrArg Value.pointer q5))) _) rfl ?_
    refine WL_val gd0 ((o_fieldAddr 3 Try.underlying43 rfl Try.sizeOf3 rfl rfl rfl) _) rfl ?_
    obtain ⟨c26, h⟩ := h
    refine WL_act gd0 (o_store (v := .int .i64 (IntKind.i64.wrap (x23 + most2))) Try.sizeOf3 rfl rfl rfl c26) ?_
    generalize hw25 : World.setCell w3.drew (p4.add 3) (.int .i64 (IntKind.i64.wrap (x23 + most2))) = w25 at h ⊢
    try dsimp only at h
    refine WL_nil ?_
    refine nrm ?_
    refine WC_seq ?_
    refine WC_region ?_
    refine WL_val gd0 ((o_move (v := .pointer p1) (by exact e0)) _) rfl ?_
    refine WL_val gd0 ((o_nilCheck (by exact (congrArg Value.pointer q5))) _) rfl ?_
    refine WL_val gd0 ((o_fieldAddr 2 Try.underlying43 rfl Try.sizeOf3 rfl rfl rfl) _) rfl ?_
    obtain ⟨x27, hc28, h⟩ := h
    refine WL_val gd0 (o_load Try.isAgg3 rfl hc28) rfl ?_
    refine WL_val gd0 ((o_move (v := .int .i64 most2) (by exact e1)) _) rfl ?_
    refine WL_val gd0 ((o_sub rfl rfl) _) rfl ?_
    refine WL_val gd0 ((o_nilCheck (by exact (congrArg Value.pointer q5))) _) rfl ?_
    refine WL_val gd0 ((o_fieldAddr 2 Try.underlying43 rfl Try.sizeOf3 rfl rfl rfl) _) rfl ?_
    obtain ⟨c30, h⟩ := h
    refine WL_act gd0 (o_store (v := .int .i64 (IntKind.i64.wrap (x27 - most2))) Try.sizeOf3 rfl rfl rfl c30) ?_
    generalize hw29 : World.setCell w25 (p4.add 2) (.int .i64 (IntKind.i64.wrap (x27 - most2))) = w29 at h ⊢
    try dsimp only at h
    refine WL_nil ?_
    refine nrm ?_
    refine WC_seq ?_
    refine WC_region ?_
    refine WL_val gd0 ((o_move (v := .slice (cutA x_a14 x_c16 x18.toNat 1) (x_n15 - x18.toNat) (x_c16 - x18.toNat)) rfl) _) rfl ?_
    refine WL_val gd0 ((o_move (v := .int .i64 most2) (by exact e1)) _) rfl ?_
    obtain ⟨c31, c32, h⟩ := h
    refine WL_val gd0 ((o_sliceH Try.underlying29 Try.sizeOf5 rfl rfl c31 c32) _) rfl ?_
    refine WL_val gd0 ((o_assign (v := .slice (cutA x_a14 x_c16 x18.toNat 1) most2.toNat (x_c16 - x18.toNat)) rfl) _) rfl ?_
    refine WL_nil ?_
    refine nrm ?_
    refine WC_ret ?_
    refine rtT ?_
    refine rtE ?_
    exact gv1 rfl rfl h
  · rw [if_neg (of_decide_eq_false hb22)] at h
    refine WC_skip ?_
    refine nrm ?_
    refine WC_seq ?_
    refine WC_region ?_
    refine WL_val gd0 ((o_move (v := .pointer p1) (by exact e0)) _) rfl ?_
    refine WL_val gd0 ((o_move (v := .pointer p1) (by exact e0)) _) rfl ?_
    refine WL_val gd0 ((o_nilCheck (by exact (congrArg Value.pointer q5))) _) rfl ?_
    refine WL_val gd0 ((o_fieldAddr 4 Try.underlying43 rfl Try.sizeOf28 rfl rfl rfl) _) rfl ?_
    obtain ⟨x_a33, x_n34, x_c35, hc36, h⟩ := h
    refine WL_val gd0 (o_load Try.isAgg28 rfl hc36) rfl ?_
    obtain ⟨c37, c38, h⟩ := h
    refine WL_val gd0 ((o_sliceL Try.underlying28 Try.sizeOf29 rfl rfl c37 c38) _) rfl ?_
    refine WL_call gd0 (o_call Try.call27 (argCons rfl argNil) _) rfl (h.mono ?_)
    rintro _ w39 ⟨x_a40, x_n41, x_c42, rfl, h⟩
    refine WL_val gd0 ((o_nilCheck (by exact (congrArg Value.pointer q5))) _) rfl ?_
    refine WL_val gd0 ((o_fieldAddr 4 Try.underlying43 rfl Try.sizeOf28 rfl rfl rfl) _) rfl ?_
    obtain ⟨c44, h⟩ := h
    refine WL_act gd0 (o_store (v := .slice x_a40 x_n41 x_c42) Try.sizeOf28 rfl rfl rfl c44) ?_
    generalize hw43 : World.setCell w39 (p4.add 4) (.slice x_a40 x_n41 x_c42) = w43 at h ⊢
    try dsimp only at h
    refine WL_nil ?_
    refine nrm ?_
    refine WC_seq ?_
    refine WC_region ?_
    refine WL_val gd0 ((o_move (v := .pointer p1) (by exact e0)) _) rfl ?_
    refine WL_val gd0 ((o_nilCheck (by exact (congrArg Value.pointer q5))) _) rfl ?_
    refine WL_val gd0 ((o_fieldAddr 3 Try.underlying43 rfl Try.sizeOf3 rfl rfl rfl) _) rfl ?_
    obtain ⟨c46, h⟩ := h
    refine WL_act gd0 (o_store (v := .int .i64 0) Try.sizeOf3 rfl rfl rfl c46) ?_
    generalize hw45 : World.setCell w43 (p4.add 3) (.int .i64 0) = w45 at h ⊢
    try dsimp only at h
    refine WL_nil ?_
    refine nrm ?_
    refine WC_seq ?_
    refine WC_region ?_
    refine WL_val gd0 ((o_move (v := .pointer p1) (by exact e0)) _) rfl ?_
    refine WL_val gd0 ((o_nilCheck (by exact (congrArg Value.pointer q5))) _) rfl ?_
    refine WL_val gd0 ((o_fieldAddr 2 Try.underlying43 rfl Try.sizeOf3 rfl rfl rfl) _) rfl ?_
    obtain ⟨x47, hc48, h⟩ := h
    refine WL_val gd0 (o_load Try.isAgg3 rfl hc48) rfl ?_
    refine WL_val gd0 ((o_move (v := .slice (cutA x_a14 x_c16 x18.toNat 1) (x_n15 - x18.toNat) (x_c16 - x18.toNat)) rfl) _) rfl ?_
    refine WL_val gd0 ((o_len Try.underlying29 rfl) _) rfl ?_
    refine WL_val gd0 ((o_sub rfl rfl) _) rfl ?_
    refine WL_val gd0 ((o_nilCheck (by exact (congrArg Value.pointer q5))) _) rfl ?_
    refine WL_val gd0 ((o_fieldAddr 2 Try.underlying43 rfl Try.sizeOf3 rfl rfl rfl) _) rfl ?_
    obtain ⟨c50, h⟩ := h
    refine WL_act gd0 (o_store (v := .int .i64 (IntKind.i64.wrap (x47 - ((x_n15 - x18.toNat : Nat) : Int)))) Try.sizeOf3 rfl rfl rfl c50) ?_
    generalize hw49 : World.setCell w45 (p4.add 2) (.int .i64 (IntKind.i64.wrap (x47 - ((x_n15 - x18.toNat : Nat) : Int)))) = w49 at h ⊢
    try dsimp only at h
    refine WL_nil ?_
    refine nrm ?_
    refine WC_seq ?_
    refine WC_region ?_
    refine WL_val gd0 ((o_move (v := .slice (cutA x_a14 x_c16 x18.toNat 1) (x_n15 - x18.toNat) (x_c16 - x18.toNat)) rfl) _) rfl ?_
    refine WL_val gd0 ((o_assign (v := .slice (cutA x_a14 x_c16 x18.toNat 1) (x_n15 - x18.toNat) (x_c16 - x18.toNat)) rfl) _) rfl ?_
    refine WL_nil ?_
    refine nrm ?_
    refine WC_ret ?_
    refine rtE ?_
    exact gv1 rfl rfl h

def F18_j1 (size1 : Int) (t5 : Bool) (w6 : World) (k : Value → World → Prop) : Prop :=
  if t5 = true then
  k (.tuple #[.slice none 0 0, .int .i64 1]) w6
else
  ∃ (b_a8 : Option Addr) (b_n9 b_c10 : Nat) (w11 : World), (Instr.makeSlice 29 (.int .i64 (IntKind.i64.wrap (size1 - 6))) (.int .i64 (IntKind.i64.wrap (size1 - 6)))).run Try.prog w6 = .ok (.slice b_a8 b_n9 b_c10) w11 ∧ Does Try.prog 6 #[.agg #[.bool false, .bool false, .int .i64 2047, .int .i64 3, .int .i64 0, .slice b_a8 b_n9 b_c10]] w11 (fun v w13 => ∃ (r_a14 : Option Addr) (r_n15 r_c16 : Nat) (r17 : Int), v = .tuple #[.slice r_a14 r_n15 r_c16, .int .i64 r17] ∧ k (.tuple #[.slice r_a14 r_n15 r_c16, .int .i64 r17]) w13)
/-- spacecraft packet.Idle -/
def F18 (size1 : Int) (w2 : World) (k : Value → World → Prop) : Prop :=
  if size1 ≤ 6 then
  F18_j1 size1 true w2 k
else
  F18_j1 size1 (decide (4096 < size1)) w2 k
set_option maxRecDepth 100000 in
set_option maxHeartbeats 2000000 in
theorem w18 (size1 : Int) (w2 : World) (k : Value → World → Prop) (h : F18 size1 w2 k) : Does Try.prog 18 #[.int .i64 size1] w2 k := by
  refine enter 17 Try.func18 rfl rfl rfl ?_
  intro ρ hρ
  have e0 := hρ 0 _ rfl
  unfold F18 at h
  refine WC_seq ?_
  refine WC_region ?_
  refine WL_val gd0 ((o_assign (v := .slice none 0 0) rfl) _) rfl ?_
  refine WL_val gd0 ((o_assign (v := .int .i64 0) rfl) _) rfl ?_
  refine WL_nil ?_
  refine nrm ?_
  refine WC_seq ?_
  refine WC_cut (fun ρ w' => ∃ (t5 : Bool), ρ 9 = .bool t5 ∧ ρ 0 = .int .i64 size1 ∧ F18_j1 size1 t5 w' k) ?_ ?_
  · refine WC_region ?_
    refine WL_val gd0 ((o_move (v := .int .i64 size1) (by exact e0)) _) rfl ?_
    refine WL_val gd0 ((o_leq rfl rfl) _) rfl ?_
    refine WL_val gd0 ((o_move (v := .bool (decide (size1 ≤ 6))) rfl) _) rfl ?_
    refine bsplit (decide (size1 ≤ 6)) (fun hb18 => ?_) (fun hb18 => ?_)
    · rw [if_pos (of_decide_eq_true hb18)] at h
      refine WL_skip (gdN (b := (decide (size1 ≤ 6))) 6 rfl rfl hb18) rfl ?_
      refine WL_skip (gdN (b := (decide (size1 ≤ 6))) 6 rfl rfl hb18) rfl ?_
      refine WL_val gd0 ((o_pickT (v := .bool true) rfl hb18 rfl) _) rfl ?_
      refine WL_nil ?_
      refine nrm ?_
      exact ⟨_, rfl, e0, h⟩
    · rw [if_neg (of_decide_eq_false hb18)] at h
      refine WL_val (gdY (b := (decide (size1 ≤ 6))) 6 rfl rfl hb18) ((o_move (v := .int .i64 size1) (by exact e0)) _) rfl ?_
      refine WL_val (gdY (b := (decide (size1 ≤ 6))) 6 rfl rfl hb18) ((o_gtr rfl rfl) _) rfl ?_
      refine WL_val gd0 ((o_pickF (v := .bool (decide (4096 < size1))) rfl hb18 rfl) _) rfl ?_
      refine WL_nil ?_
      refine nrm ?_
      exact ⟨_, rfl, e0, h⟩
  · rintro ρ w6 ⟨t5, e9_4, e0_3, h⟩
    unfold F18_j1 at h
    refine WC_cond (t := t5) (by exact e9_4) (fun hb7 => ?_) (fun hb7 => ?_)
    · rw [if_pos hb7] at h
      refine WC_seq ?_
      refine WC_region ?_
      refine WL_val gd0 ((o_assign (v := .slice none 0 0) rfl) _) rfl ?_
      refine WL_val gd0 ((o_assign (v := .int .i64 1) rfl) _) rfl ?_
      refine WL_nil ?_
      refine nrm ?_
      refine WC_ret ?_
      refine rtT ?_
      refine rtE ?_
      exact gv2 rfl rfl rfl h
    · rw [if_neg (neT hb7)] at h
      refine WC_skip ?_
      refine nrm ?_
      refine WC_seq ?_
      refine WC_region ?_
      refine WL_val gd0 ((o_move (v := .int .i64 size1) (by exact e0_3)) _) rfl ?_
      refine WL_val gd0 ((o_sub rfl rfl) _) rfl ?_
      obtain ⟨b_a8, b_n9, b_c10, w11, r12, h⟩ := h
      refine WL_val gd0 (o_makeSlice rfl rfl r12) rfl ?_
      refine WL_val gd0 ((o_build (ps := [(2, .int .i64 2047), (3, .int .i64 3), (5, .slice b_a8 b_n9 b_c10)]) (v := .agg #[.bool false, .bool false, .int .i64 2047, .int .i64 3, .int .i64 0, .slice b_a8 b_n9 b_c10]) (partCons rfl (partCons rfl (partCons rfl partNil))) (fun w => by kernel_rfl)) _) rfl ?_
      refine WL_call gd0 (o_call Try.call6 (argCons rfl argNil) _) rfl (h.mono ?_)
      rintro _ w13 ⟨r_a14, r_n15, r_c16, r17, rfl, h⟩
      refine WL_val gd0 ((o_extract (vs := [.slice r_a14 r_n15 r_c16, .int .i64 r17]) (r := .slice r_a14 r_n15 r_c16) rfl rfl) _) rfl ?_
      refine WL_val gd0 ((o_extract (vs := [.slice r_a14 r_n15 r_c16, .int .i64 r17]) (r := .int .i64 r17) rfl rfl) _) rfl ?_
      refine WL_val gd0 ((o_assign (v := .slice r_a14 r_n15 r_c16) rfl) _) rfl ?_
      refine WL_val gd0 ((o_assign (v := .int .i64 r17) rfl) _) rfl ?_
      refine WL_nil ?_
      refine nrm ?_
      refine WC_ret ?_
      refine rtE ?_
      exact gv2 rfl rfl rfl h


end Go.Proofs.Ytnaomgfdcadncaa
