/-
  The forms of the functions, and their walks: written by a program of this claim (gen.py) off the elaborated translation.
-/
import Derived.Test.YtjjhghcaecodpaaProg
import Derived.Test.YtjjhghcaecodpaaBase
import Derived.KernelRfl
import Derived.Test.YtjjhghcaecodpaaFormsP0
namespace Go.Proofs.Ytjjhghcaecodpaa
open Go Go.Sh Go.Proofs
set_option linter.unusedVariables false
def F12_b1 (l_n2 : Nat) (l_a1 : Option Addr) (n4 : Int) (i9 : Int) (w10 : World) (k : Value → World → Prop) (nx10 : Int → World → Prop) : Prop :=
  if i9 < (l_n2 : Int) then
  ∃ (p15 : Addr), l_a1 = some p15 ∧ (0 : Int) ≤ i9 ∧ i9 < (l_n2 : Int) ∧ ∃ (x17 : Int), w10.cell? (p15.add i9.toNat) = some (.int .i64 x17) ∧ if x17 = n4 then
    k (.bool true) w10
  else
    nx10 (IntKind.i64.wrap (i9 + 1)) w10
else
  k (.bool false) w10
/-- spacecraft spacecraftlaw22.is -/
def F12 (l_a1 : Option Addr) (l_n2 : Nat) (l_c3 : Nat) (n4 : Int) (w5 : World) (k : Value → World → Prop) : Prop :=
  LoopP (fun (s : Int) w' nx' => F12_b1 l_n2 l_a1 n4 s w' k (fun x0 w => nx' x0 w)) 0 w5
set_option maxRecDepth 100000 in
set_option maxHeartbeats 2000000 in
theorem w12 (l_a1 : Option Addr) (l_n2 : Nat) (l_c3 : Nat) (n4 : Int) (w5 : World) (k : Value → World → Prop) (h : F12 l_a1 l_n2 l_c3 n4 w5 k) : Does Try.prog 12 #[.slice l_a1 l_n2 l_c3, .int .i64 n4] w5 k := by
  refine enter 18 Try.func12 rfl rfl rfl ?_
  intro ρ hρ
  have e0 := hρ 0 _ rfl
  have e1 := hρ 1 _ rfl
  unfold F12 at h
  refine WC_seq ?_
  refine WC_region ?_
  refine WL_val gd0 ((o_assign (v := .bool false) rfl) _) rfl ?_
  refine WL_nil ?_
  refine nrm ?_
  refine WC_seq ?_
  refine WC_seq ?_
  refine WC_region ?_
  refine WL_val gd0 ((o_assign (v := .int .i64 0) rfl) _) rfl ?_
  refine WL_nil ?_
  refine nrm ?_
  refine WC_block ?_
  obtain ⟨J10, ⟨n10, h0⟩, hr10⟩ := h
  refine WC_loop (fun n ρ w' => ∃ (i9 : Int), ρ 5 = .int .i64 i9 ∧ ρ 0 = .slice l_a1 l_n2 l_c3 ∧ ρ 1 = .int .i64 n4 ∧ J10 n i9 w') ⟨n10, _, rfl, e0, e1, h0⟩ ?_
  rintro n10 ρ w10 ⟨i9, e5_8, e0_6, e1_7, h⟩
  have h : F12_b1 l_n2 l_a1 n4 i9 w10 k (fun x0 w => ∃ m, m < n10 ∧ J10 m x0 w) := hr10 n10 i9 w10 h
  unfold F12_b1 at h
  refine WC_seq ?_
  refine WC_seq ?_
  refine WC_region ?_
  refine WL_val gd0 ((o_move (v := .int .i64 i9) (by exact e5_8)) _) rfl ?_
  refine WL_val gd0 ((o_move (v := .slice l_a1 l_n2 l_c3) (by exact e0_6)) _) rfl ?_
  refine WL_val gd0 ((o_len Try.underlying28 rfl) _) rfl ?_
  refine WL_val gd0 ((o_lss rfl rfl) _) rfl ?_
  refine WL_nil ?_
  refine nrm ?_
  refine WC_cond (t := (decide (i9 < (l_n2 : Int)))) rfl (fun hb12 => ?_) (fun hb12 => ?_)
  · rw [if_pos (of_decide_eq_true hb12)] at h
    refine WC_skip ?_
    refine nrm ?_
    refine WC_seq ?_
    refine WC_block ?_
    refine WC_seq ?_
    refine WC_region ?_
    refine WL_val gd0 ((o_move (v := .slice l_a1 l_n2 l_c3) (by exact e0_6)) _) rfl ?_
    refine WL_val gd0 ((o_move (v := .int .i64 i9) (by exact e5_8)) _) rfl ?_
    obtain ⟨p15, q16, h⟩ := h
    obtain ⟨l13, u14, h⟩ := h
    refine WL_val gd0 ((o_indexAddr1 Try.underlying28 Try.sizeOf3 (by exact (congrArg (fun z => Value.slice z l_n2 l_c3) q16)) rfl l13 u14) _) rfl ?_
    obtain ⟨x17, hc18, h⟩ := h
    refine WL_val gd0 (o_load Try.isAgg3 rfl hc18) rfl ?_
    refine WL_val gd0 ((o_move (v := .int .i64 n4) (by exact e1_7)) _) rfl ?_
    refine WL_val gd0 ((o_eql rfl rfl) _) rfl ?_
    refine WL_nil ?_
    refine nrm ?_
    refine WC_cond (t := (decide (x17 = n4))) rfl (fun hb19 => ?_) (fun hb19 => ?_)
    · rw [if_pos (of_decide_eq_true hb19)] at h
      refine WC_seq ?_
      refine WC_region ?_
      refine WL_val gd0 ((o_assign (v := .bool true) rfl) _) rfl ?_
      refine WL_nil ?_
      refine nrm ?_
      refine WC_ret ?_
      refine rtB ?_
      refine rtT ?_
      refine rtT ?_
      refine rtB ?_
      refine rtT ?_
      refine rtE ?_
      exact gv1 rfl rfl h
    · rw [if_neg (of_decide_eq_false hb19)] at h
      refine WC_skip ?_
      refine nrmB ?_
      refine nrm ?_
      refine WC_region ?_
      refine WL_val gd0 ((o_move (v := .int .i64 i9) (by exact e5_8)) _) rfl ?_
      refine WL_val gd0 ((o_add rfl rfl) _) rfl ?_
      refine WL_val gd0 ((o_assign (v := .int .i64 (IntKind.i64.wrap (i9 + 1))) rfl) _) rfl ?_
      refine WL_nil ?_
      refine nrm ?_
      obtain ⟨m11, hm11, h⟩ := h
      exact ⟨m11, hm11, _, rfl, e0_6, e1_7, h⟩
  · rw [if_neg (of_decide_eq_false hb12)] at h
    refine WC_exit ?_
    refine exT ?_
    refine exT ?_
    refine exB ?_
    refine nrm ?_
    refine WC_seq ?_
    refine WC_region ?_
    refine WL_val gd0 ((o_assign (v := .bool false) rfl) _) rfl ?_
    refine WL_nil ?_
    refine nrm ?_
    refine WC_ret ?_
    refine rtE ?_
    exact gv1 rfl rfl h

/-- (*spacecraft mux.Mux).Clone -/
def F13 (m1 : Option Addr) (w2 : World) (k : Value → World → Prop) : Prop :=
  if (m1).isNone = true then
  k (.pointer none) w2
else
  ∃ (p4 : Addr), m1 = some p4 ∧ ∃ (x_a6 : Option Addr) (x_n7 x_c8 : Nat), w2.cell? p4 = some (.slice x_a6 x_n7 x_c8) ∧ if (x_a6).isNone = true then
    k (.pointer none) w2
  else
    New w2 52 [] (fun p11 w12 => ∃ (x_a13 : Option Addr) (x_n14 x_c15 : Nat), w12.cell? p4 = some (.slice x_a13 x_n14 x_c15) ∧ ∃ (b_a17 : Option Addr) (b_n18 b_c19 : Nat) (w20 : World), (Builtin.append_ #[48, 48] 48 #[.slice (some p11) 0 0, .slice x_a13 x_n14 x_c15]).run Try.prog w12 = .ok (.slice b_a17 b_n18 b_c19) w20 ∧ New w20 50 [.slice b_a17 b_n18 b_c19] (fun p22 w23 => k (.pointer (some p22)) w23))
set_option maxRecDepth 100000 in
set_option maxHeartbeats 2000000 in
theorem w13 (m1 : Option Addr) (w2 : World) (k : Value → World → Prop) (h : F13 m1 w2 k) : Does Try.prog 13 #[.pointer m1] w2 k := by
  refine enter 20 Try.func13 rfl rfl rfl ?_
  intro ρ hρ
  have e0 := hρ 0 _ rfl
  unfold F13 at h
  refine WC_seq ?_
  refine WC_region ?_
  refine WL_val gd0 ((o_assign (v := .pointer none) rfl) _) rfl ?_
  refine WL_nil ?_
  refine nrm ?_
  refine WC_seq ?_
  refine WC_seq ?_
  refine WC_region ?_
  refine WL_val gd0 ((o_move (v := .pointer m1) (by exact e0)) _) rfl ?_
  refine WL_val gd0 ((o_eqlPtrNil Try.underlying24 rfl rfl) _) rfl ?_
  refine WL_val gd0 ((o_move (v := .bool ((m1).isNone)) rfl) _) rfl ?_
  refine bsplit ((m1).isNone) (fun hb3 => ?_) (fun hb3 => ?_)
  · rw [if_pos hb3] at h
    refine WL_skip (gdN (b := ((m1).isNone)) 5 rfl rfl hb3) rfl ?_
    refine WL_skip (gdN (b := ((m1).isNone)) 5 rfl rfl hb3) rfl ?_
    refine WL_skip (gdN (b := ((m1).isNone)) 5 rfl rfl hb3) rfl ?_
    refine WL_skip (gdN (b := ((m1).isNone)) 5 rfl rfl hb3) rfl ?_
    refine WL_skip (gdN (b := ((m1).isNone)) 5 rfl rfl hb3) rfl ?_
    refine WL_val gd0 ((o_pickT (v := .bool true) rfl hb3 rfl) _) rfl ?_
    refine WL_nil ?_
    refine nrm ?_
    refine WC_cond (t := true) rfl (fun _ => ?_) (fun hx => by rw [(rfl : true = true)] at hx; cases hx)
    refine WC_seq ?_
    refine WC_region ?_
    refine WL_val gd0 ((o_assign (v := .pointer none) rfl) _) rfl ?_
    refine WL_nil ?_
    refine nrm ?_
    refine WC_ret ?_
    refine rtT ?_
    refine rtE ?_
    exact gv1 rfl rfl h
  · rw [if_neg (neT hb3)] at h
    refine WL_val (gdY (b := ((m1).isNone)) 5 rfl rfl hb3) ((o_move (v := .pointer m1) (by exact e0)) _) rfl ?_
    obtain ⟨p4, q5, h⟩ := h
    refine WL_val (gdY (b := ((m1).isNone)) 5 rfl rfl hb3) ((o_nilCheck (by exact (congrArg Value.pointer q5))) _) rfl ?_
    refine WL_val (gdY (b := ((m1).isNone)) 5 rfl rfl hb3) ((o_fieldAddr0 Try.underlying50 rfl Try.sizeOf48 rfl rfl rfl) _) rfl ?_
    obtain ⟨x_a6, x_n7, x_c8, hc9, h⟩ := h
    refine WL_val (gdY (b := ((m1).isNone)) 5 rfl rfl hb3) (o_load Try.isAgg48 rfl hc9) rfl ?_
    refine WL_val (gdY (b := ((m1).isNone)) 5 rfl rfl hb3) ((o_eqlSliceNil Try.underlying48 rfl rfl) _) rfl ?_
    refine WL_val gd0 ((o_pickF (v := .bool ((x_a6).isNone)) rfl hb3 rfl) _) rfl ?_
    refine WL_nil ?_
    refine nrm ?_
    refine WC_cond (t := ((x_a6).isNone)) rfl (fun hb10 => ?_) (fun hb10 => ?_)
    · rw [if_pos hb10] at h
      refine WC_seq ?_
      refine WC_region ?_
      refine WL_val gd0 ((o_assign (v := .pointer none) rfl) _) rfl ?_
      refine WL_nil ?_
      refine nrm ?_
      refine WC_ret ?_
      refine rtT ?_
      refine rtE ?_
      exact gv1 rfl rfl h
    · rw [if_neg (neT hb10)] at h
      refine WC_skip ?_
      refine nrm ?_
      refine WC_seq ?_
      refine WC_region ?_
      have h := New.out h
      refine WL_val gd0 (o_buildSlice (e := 52) (ps := []) (cs := []) partNil (fun w => by kernel_rfl)) rfl ?_
      generalize hp11 : fresh w2 = p11 at h ⊢
      generalize hw12 : push w2 52 [] = w12 at h ⊢
      try dsimp only at h
      refine WL_val gd0 ((o_move (v := .pointer m1) (by exact e0)) _) rfl ?_
      refine WL_val gd0 ((o_nilCheck (by exact (congrArg Value.pointer q5))) _) rfl ?_
      refine WL_val gd0 ((o_fieldAddr0 Try.underlying50 rfl Try.sizeOf48 rfl rfl rfl) _) rfl ?_
      obtain ⟨x_a13, x_n14, x_c15, hc16, h⟩ := h
      refine WL_val gd0 (o_load Try.isAgg48 rfl hc16) rfl ?_
      obtain ⟨b_a17, b_n18, b_c19, w20, r21, h⟩ := h
      refine WL_val gd0 (o_append rfl rfl r21) rfl ?_
      refine WL_val gd0 ((o_build (ps := [(0, .slice b_a17 b_n18 b_c19)]) (v := .agg #[.slice b_a17 b_n18 b_c19]) (partCons rfl partNil) (fun w => by kernel_rfl)) _) rfl ?_
      have h := New.out h
      refine WL_val gd0 (o_box (v := .agg #[.slice b_a17 b_n18 b_c19]) (cs := [.slice b_a17 b_n18 b_c19]) rfl rfl) rfl ?_
      generalize hp22 : fresh w20 = p22 at h ⊢
      generalize hw23 : push w20 50 [.slice b_a17 b_n18 b_c19] = w23 at h ⊢
      try dsimp only at h
      refine WL_val gd0 ((o_assign (v := .pointer (some p22)) rfl) _) rfl ?_
      refine WL_nil ?_
      refine nrm ?_
      refine WC_ret ?_
      refine rtE ?_
      exact gv1 rfl rfl h

def F14_j3 (i52 : Int) (sum50 : Int) (x122 : Int) (best48 : Int) (t131 : Bool) (w132 : World) (nx53 : Int → Int → Int → World → Prop) : Prop :=
  if t131 = true then
  nx53 i52 (IntKind.i64.wrap (sum50 + x122)) (IntKind.i64.wrap (i52 + 1)) w132
else
  nx53 best48 (IntKind.i64.wrap (sum50 + x122)) (IntKind.i64.wrap (i52 + 1)) w132
def F14_b2 (p14 : Addr) (first9 : Int) (ready_a2 : Option Addr) (ready_n3 : Nat) (ready_c4 : Nat) (best48 : Int) (sum50 : Int) (i52 : Int) (w53 : World) (nx53 : Int → Int → Int → World → Prop) (k : Value → World → Prop) : Prop :=
  ∃ (x_a55 : Option Addr) (x_n56 x_c57 : Nat), w53.cell? p14 = some (.slice x_a55 x_n56 x_c57) ∧ if i52 < (x_n56 : Int) then
  ∃ (x_a60 : Option Addr) (x_n61 x_c62 : Nat), w53.cell? p14 = some (.slice x_a60 x_n61 x_c62) ∧ ∃ (p66 : Addr), x_a60 = some p66 ∧ (0 : Int) ≤ i52 ∧ i52 < (x_n61 : Int) ∧ ∃ (x68 : Int), w53.cell? ((p66.add (i52.toNat * 3)).add 1) = some (.int .i64 x68) ∧ if x68 ≠ first9 then
    nx53 best48 sum50 (IntKind.i64.wrap (i52 + 1)) w53
  else
    ∃ (x_a71 : Option Addr) (x_n72 x_c73 : Nat), w53.cell? p14 = some (.slice x_a71 x_n72 x_c73) ∧ ∃ (p77 : Addr), x_a71 = some p77 ∧ (0 : Int) ≤ i52 ∧ i52 < (x_n72 : Int) ∧ ∃ (x79 : Int), w53.cell? (p77.add (i52.toNat * 3)) = some (.int .i64 x79) ∧ Does Try.prog 25 #[.slice ready_a2 ready_n3 ready_c4, .int .i64 x79] w53 (fun v w81 => ∃ (x82 : Bool), v = .bool x82 ∧ if (!x82) = true then
      nx53 best48 sum50 (IntKind.i64.wrap (i52 + 1)) w81
    else
      ∃ (x_a84 : Option Addr) (x_n85 x_c86 : Nat), w81.drew.cell? (p14.add 1) = some (.slice x_a84 x_n85 x_c86) ∧ ∃ (x_a88 : Option Addr) (x_n89 x_c90 : Nat), w81.drew.cell? (p14.add 1) = some (.slice x_a88 x_n89 x_c90) ∧ ∃ (p94 : Addr), x_a88 = some p94 ∧ (0 : Int) ≤ i52 ∧ i52 < (x_n89 : Int) ∧ ∃ (x96 : Int), w81.drew.cell? (p94.add i52.toNat) = some (.int .i64 x96) ∧ ∃ (x_a98 : Option Addr) (x_n99 x_c100 : Nat), w81.drew.cell? p14 = some (.slice x_a98 x_n99 x_c100) ∧ ∃ (p104 : Addr), x_a98 = some p104 ∧ (0 : Int) ≤ i52 ∧ i52 < (x_n99 : Int) ∧ ∃ (x106 : Int), w81.drew.cell? ((p104.add (i52.toNat * 3)).add 2) = some (.int .i64 x106) ∧ ∃ (p110 : Addr), x_a84 = some p110 ∧ (0 : Int) ≤ i52 ∧ i52 < (x_n85 : Int) ∧ Put w81.drew (p110.add i52.toNat) (.int .i64 (IntKind.i64.wrap (x96 + x106))) (fun w112 => ∃ (x_a114 : Option Addr) (x_n115 x_c116 : Nat), w112.cell? p14 = some (.slice x_a114 x_n115 x_c116) ∧ ∃ (p120 : Addr), x_a114 = some p120 ∧ (0 : Int) ≤ i52 ∧ i52 < (x_n115 : Int) ∧ ∃ (x122 : Int), w112.cell? ((p120.add (i52.toNat * 3)).add 2) = some (.int .i64 x122) ∧ if best48 < 0 then
        F14_j3 i52 sum50 x122 best48 true w112.drew nx53
      else
        ∃ (x_a135 : Option Addr) (x_n136 x_c137 : Nat), w112.drew.cell? (p14.add 1) = some (.slice x_a135 x_n136 x_c137) ∧ ∃ (p141 : Addr), x_a135 = some p141 ∧ (0 : Int) ≤ i52 ∧ i52 < (x_n136 : Int) ∧ ∃ (x143 : Int), w112.drew.cell? (p141.add i52.toNat) = some (.int .i64 x143) ∧ ∃ (x_a145 : Option Addr) (x_n146 x_c147 : Nat), w112.drew.cell? (p14.add 1) = some (.slice x_a145 x_n146 x_c147) ∧ ∃ (p151 : Addr), x_a145 = some p151 ∧ (0 : Int) ≤ best48 ∧ best48 < (x_n146 : Int) ∧ ∃ (x153 : Int), w112.drew.cell? (p151.add best48.toNat) = some (.int .i64 x153) ∧ if x153 < x143 then
          F14_j3 i52 sum50 x122 best48 true w112.drew nx53
        else
          ∃ (x_a156 : Option Addr) (x_n157 x_c158 : Nat), w112.drew.cell? (p14.add 1) = some (.slice x_a156 x_n157 x_c158) ∧ ∃ (p162 : Addr), x_a156 = some p162 ∧ (0 : Int) ≤ i52 ∧ i52 < (x_n157 : Int) ∧ ∃ (x164 : Int), w112.drew.cell? (p162.add i52.toNat) = some (.int .i64 x164) ∧ ∃ (x_a166 : Option Addr) (x_n167 x_c168 : Nat), w112.drew.cell? (p14.add 1) = some (.slice x_a166 x_n167 x_c168) ∧ ∃ (p172 : Addr), x_a166 = some p172 ∧ (0 : Int) ≤ best48 ∧ best48 < (x_n167 : Int) ∧ ∃ (x174 : Int), w112.drew.cell? (p172.add best48.toNat) = some (.int .i64 x174) ∧ if x164 = x174 then
            ∃ (x_a177 : Option Addr) (x_n178 x_c179 : Nat), w112.drew.cell? p14 = some (.slice x_a177 x_n178 x_c179) ∧ ∃ (p183 : Addr), x_a177 = some p183 ∧ (0 : Int) ≤ i52 ∧ i52 < (x_n178 : Int) ∧ ∃ (x185 : Int), w112.drew.cell? (p183.add (i52.toNat * 3)) = some (.int .i64 x185) ∧ ∃ (x_a187 : Option Addr) (x_n188 x_c189 : Nat), w112.drew.cell? p14 = some (.slice x_a187 x_n188 x_c189) ∧ ∃ (p193 : Addr), x_a187 = some p193 ∧ (0 : Int) ≤ best48 ∧ best48 < (x_n188 : Int) ∧ ∃ (x195 : Int), w112.drew.cell? (p193.add (best48.toNat * 3)) = some (.int .i64 x195) ∧ F14_j3 i52 sum50 x122 best48 (decide (x185 < x195)) w112.drew nx53
          else
            F14_j3 i52 sum50 x122 best48 false w112.drew nx53))
else
  if 0 ≤ best48 then
    ∃ (x_a198 : Option Addr) (x_n199 x_c200 : Nat), w53.drew.cell? (p14.add 1) = some (.slice x_a198 x_n199 x_c200) ∧ ∃ (x_a202 : Option Addr) (x_n203 x_c204 : Nat), w53.drew.cell? (p14.add 1) = some (.slice x_a202 x_n203 x_c204) ∧ ∃ (p208 : Addr), x_a202 = some p208 ∧ (0 : Int) ≤ best48 ∧ best48 < (x_n203 : Int) ∧ ∃ (x210 : Int), w53.drew.cell? (p208.add best48.toNat) = some (.int .i64 x210) ∧ ∃ (p214 : Addr), x_a198 = some p214 ∧ (0 : Int) ≤ best48 ∧ best48 < (x_n199 : Int) ∧ Put w53.drew (p214.add best48.toNat) (.int .i64 (IntKind.i64.wrap (x210 - sum50))) (fun w216 => ∃ (x_a218 : Option Addr) (x_n219 x_c220 : Nat), w216.drew.cell? (p14.add 2) = some (.slice x_a218 x_n219 x_c220) ∧ ∃ (x_a222 : Option Addr) (x_n223 x_c224 : Nat), w216.drew.cell? (p14.add 2) = some (.slice x_a222 x_n223 x_c224) ∧ ∃ (p228 : Addr), x_a222 = some p228 ∧ (0 : Int) ≤ best48 ∧ best48 < (x_n223 : Int) ∧ ∃ (x230 : Int), w216.drew.cell? (p228.add best48.toNat) = some (.int .i64 x230) ∧ ∃ (p234 : Addr), x_a218 = some p234 ∧ (0 : Int) ≤ best48 ∧ best48 < (x_n219 : Int) ∧ Put w216.drew (p234.add best48.toNat) (.int .i64 (IntKind.i64.wrap (x230 + 1))) (fun w236 => k (.int .i64 best48) w236))
  else
    k (.int .i64 best48) w53
def F14_b1 (m1 : Option Addr) (ready_a2 : Option Addr) (ready_n3 : Nat) (ready_c4 : Nat) (first9 : Int) (i11 : Int) (w12 : World) (nx12 : Int → Int → World → Prop) (k : Value → World → Prop) : Prop :=
  ∃ (p14 : Addr), m1 = some p14 ∧ ∃ (x_a16 : Option Addr) (x_n17 x_c18 : Nat), w12.cell? p14 = some (.slice x_a16 x_n17 x_c18) ∧ if i11 < (x_n17 : Int) then
  ∃ (x_a21 : Option Addr) (x_n22 x_c23 : Nat), w12.cell? p14 = some (.slice x_a21 x_n22 x_c23) ∧ ∃ (p27 : Addr), x_a21 = some p27 ∧ (0 : Int) ≤ i11 ∧ i11 < (x_n22 : Int) ∧ ∃ (x29 : Int), w12.cell? (p27.add (i11.toNat * 3)) = some (.int .i64 x29) ∧ Does Try.prog 25 #[.slice ready_a2 ready_n3 ready_c4, .int .i64 x29] w12 (fun v w31 => ∃ (x32 : Bool), v = .bool x32 ∧ if x32 = true then
    ∃ (x_a34 : Option Addr) (x_n35 x_c36 : Nat), w31.cell? p14 = some (.slice x_a34 x_n35 x_c36) ∧ ∃ (p40 : Addr), x_a34 = some p40 ∧ (0 : Int) ≤ i11 ∧ i11 < (x_n35 : Int) ∧ ∃ (x42 : Int), w31.cell? ((p40.add (i11.toNat * 3)).add 1) = some (.int .i64 x42) ∧ nx12 (min first9 x42) (IntKind.i64.wrap (i11 + 1)) w31
  else
    nx12 first9 (IntKind.i64.wrap (i11 + 1)) w31)
else
  LoopP (fun (s : Int × Int × Int) w' nx' => F14_b2 p14 first9 ready_a2 ready_n3 ready_c4 (s.1) (s.2.1) (s.2.2) w' (fun x0 x1 x2 w => nx' (x0, x1, x2) w) k) ((-1), 0, 0) w12
/-- spacecraft spacecraftref22.Next -/
def F14 (m1 : Option Addr) (ready_a2 : Option Addr) (ready_n3 : Nat) (ready_c4 : Nat) (w5 : World) (k : Value → World → Prop) : Prop :=
  LoopP (fun (s : Int × Int) w' nx' => F14_b1 m1 ready_a2 ready_n3 ready_c4 (s.1) (s.2) w' (fun x0 x1 w => nx' (x0, x1) w) k) (16, 0) w5
set_option maxRecDepth 100000 in
set_option maxHeartbeats 2000000 in
theorem w14 (m1 : Option Addr) (ready_a2 : Option Addr) (ready_n3 : Nat) (ready_c4 : Nat) (w5 : World) (k : Value → World → Prop) (h : F14 m1 ready_a2 ready_n3 ready_c4 w5 k) : Does Try.prog 14 #[.pointer m1, .slice ready_a2 ready_n3 ready_c4] w5 k := by
  refine enter 191 Try.func14 rfl rfl rfl ?_
  intro ρ hρ
  have e0 := hρ 0 _ rfl
  have e1 := hρ 1 _ rfl
  unfold F14 at h
  refine WC_seq ?_
  refine WC_region ?_
  refine WL_val gd0 ((o_assign (v := .int .i64 0) rfl) _) rfl ?_
  refine WL_nil ?_
  refine nrm ?_
  refine WC_seq ?_
  refine WC_region ?_
  refine WL_val gd0 ((o_assign (v := .int .i64 16) rfl) _) rfl ?_
  refine WL_nil ?_
  refine nrm ?_
  refine WC_seq ?_
  refine WC_seq ?_
  refine WC_region ?_
  refine WL_val gd0 ((o_assign (v := .int .i64 0) rfl) _) rfl ?_
  refine WL_nil ?_
  refine nrm ?_
  refine WC_block ?_
  obtain ⟨J12, ⟨n12, h0⟩, hr12⟩ := h
  refine WC_loop (fun n ρ w' => ∃ (first9 i11 : Int), ρ 5 = .int .i64 first9 ∧ ρ 6 = .int .i64 i11 ∧ ρ 0 = .pointer m1 ∧ ρ 1 = .slice ready_a2 ready_n3 ready_c4 ∧ J12 n (first9, i11) w') ⟨n12, _, _, rfl, rfl, e0, e1, h0⟩ ?_
  rintro n12 ρ w12 ⟨first9, i11, e5_8, e6_10, e0_6, e1_7, h⟩
  have h : F14_b1 m1 ready_a2 ready_n3 ready_c4 first9 i11 w12 (fun x0 x1 w => ∃ m, m < n12 ∧ J12 m (x0, x1) w) k := hr12 n12 (first9, i11) w12 h
  unfold F14_b1 at h
  refine WC_seq ?_
  refine WC_seq ?_
  refine WC_region ?_
  refine WL_val gd0 ((o_move (v := .int .i64 i11) (by exact e6_10)) _) rfl ?_
  refine WL_val gd0 ((o_move (v := .pointer m1) (by exact e0_6)) _) rfl ?_
  obtain ⟨p14, q15, h⟩ := h
  refine WL_val gd0 ((o_nilCheck (by exact (congrArg Value.pointer q15))) _) rfl ?_
  refine WL_val gd0 ((o_fieldAddr0 Try.underlying30 rfl Try.sizeOf22 rfl rfl rfl) _) rfl ?_
  obtain ⟨x_a16, x_n17, x_c18, hc19, h⟩ := h
  refine WL_val gd0 (o_load Try.isAgg22 rfl hc19) rfl ?_
  refine WL_val gd0 ((o_len Try.underlying22 rfl) _) rfl ?_
  refine WL_val gd0 ((o_lss rfl rfl) _) rfl ?_
  refine WL_nil ?_
  refine nrm ?_
  refine WC_cond (t := (decide (i11 < (x_n17 : Int)))) rfl (fun hb20 => ?_) (fun hb20 => ?_)
  · rw [if_pos (of_decide_eq_true hb20)] at h
    refine WC_skip ?_
    refine nrm ?_
    refine WC_seq ?_
    refine WC_block ?_
    refine WC_seq ?_
    refine WC_region ?_
    refine WL_val gd0 ((o_move (v := .slice ready_a2 ready_n3 ready_c4) (by exact e1_7)) _) rfl ?_
    refine WL_val gd0 ((o_move (v := .pointer m1) (by exact e0_6)) _) rfl ?_
    refine WL_val gd0 ((o_nilCheck (by exact (congrArg Value.pointer q15))) _) rfl ?_
    refine WL_val gd0 ((o_fieldAddr0 Try.underlying30 rfl Try.sizeOf22 rfl rfl rfl) _) rfl ?_
    obtain ⟨x_a21, x_n22, x_c23, hc24, h⟩ := h
    refine WL_val gd0 (o_load Try.isAgg22 rfl hc24) rfl ?_
    refine WL_val gd0 ((o_move (v := .int .i64 i11) (by exact e6_10)) _) rfl ?_
    obtain ⟨p27, q28, h⟩ := h
    obtain ⟨l25, u26, h⟩ := h
    refine WL_val gd0 ((o_indexAddr Try.underlying22 Try.sizeOf35 (by exact (congrArg (fun z => Value.slice z x_n22 x_c23) q28)) rfl l25 u26) _) rfl ?_
    refine WL_val gd0 ((o_fieldAddr0 Try.underlying35 rfl Try.sizeOf3 rfl rfl rfl) _) rfl ?_
    obtain ⟨x29, hc30, h⟩ := h
    refine WL_val gd0 (o_load Try.isAgg3 rfl hc30) rfl ?_
    refine WL_call gd0 (o_call Try.call25 (argCons rfl (argCons rfl argNil)) _) rfl (h.mono ?_)
    rintro _ w31 ⟨x32, rfl, h⟩
    refine WL_nil ?_
    refine nrm ?_
    refine WC_cond (t := x32) rfl (fun hb33 => ?_) (fun hb33 => ?_)
    · rw [if_pos hb33] at h
      refine WC_region ?_
      refine WL_val gd0 ((o_move (v := .int .i64 first9) (by exact e5_8)) _) rfl ?_
      refine WL_val gd0 ((o_move (v := .pointer m1) (by exact e0_6)) _) rfl ?_
      refine WL_val gd0 ((o_nilCheck (by exact (congrArg Value.pointer q15))) _) rfl ?_
      refine WL_val gd0 ((o_fieldAddr0 Try.underlying30 rfl Try.sizeOf22 rfl rfl rfl) _) rfl ?_
      obtain ⟨x_a34, x_n35, x_c36, hc37, h⟩ := h
      refine WL_val gd0 (o_load Try.isAgg22 rfl hc37) rfl ?_
      refine WL_val gd0 ((o_move (v := .int .i64 i11) (by exact e6_10)) _) rfl ?_
      obtain ⟨p40, q41, h⟩ := h
      obtain ⟨l38, u39, h⟩ := h
      refine WL_val gd0 ((o_indexAddr Try.underlying22 Try.sizeOf35 (by exact (congrArg (fun z => Value.slice z x_n35 x_c36) q41)) rfl l38 u39) _) rfl ?_
      refine WL_val gd0 ((o_fieldAddr 1 Try.underlying35 rfl Try.sizeOf3 rfl rfl rfl) _) rfl ?_
      obtain ⟨x42, hc43, h⟩ := h
      refine WL_val gd0 (o_load Try.isAgg3 rfl hc43) rfl ?_
      refine WL_val gd0 ((o_min2 rfl rfl) _) rfl ?_
      refine WL_val gd0 ((o_assign (v := .int .i64 (min first9 x42)) rfl) _) rfl ?_
      refine WL_nil ?_
      refine nrmB ?_
      refine nrm ?_
      refine WC_region ?_
      refine WL_val gd0 ((o_move (v := .int .i64 i11) (by exact e6_10)) _) rfl ?_
      refine WL_val gd0 ((o_add rfl rfl) _) rfl ?_
      refine WL_val gd0 ((o_assign (v := .int .i64 (IntKind.i64.wrap (i11 + 1))) rfl) _) rfl ?_
      refine WL_nil ?_
      refine nrm ?_
      obtain ⟨m13, hm13, h⟩ := h
      exact ⟨m13, hm13, _, _, rfl, rfl, e0_6, e1_7, h⟩
    · rw [if_neg (neT hb33)] at h
      refine WC_skip ?_
      refine nrmB ?_
      refine nrm ?_
      refine WC_region ?_
      refine WL_val gd0 ((o_move (v := .int .i64 i11) (by exact e6_10)) _) rfl ?_
      refine WL_val gd0 ((o_add rfl rfl) _) rfl ?_
      refine WL_val gd0 ((o_assign (v := .int .i64 (IntKind.i64.wrap (i11 + 1))) rfl) _) rfl ?_
      refine WL_nil ?_
      refine nrm ?_
      obtain ⟨m13, hm13, h⟩ := h
      exact ⟨m13, hm13, _, _, e5_8, rfl, e0_6, e1_7, h⟩
  · rw [if_neg (of_decide_eq_false hb20)] at h
    refine WC_exit ?_
    refine exT ?_
    refine exT ?_
    refine exB ?_
    refine nrm ?_
    refine WC_seq ?_
    refine WC_region ?_
    refine WL_val gd0 ((o_assign (v := .int .i64 (-1)) rfl) _) rfl ?_
    refine WL_nil ?_
    refine nrm ?_
    refine WC_seq ?_
    refine WC_region ?_
    refine WL_val gd0 ((o_assign (v := .int .i64 0) rfl) _) rfl ?_
    refine WL_nil ?_
    refine nrm ?_
    refine WC_seq ?_
    refine WC_seq ?_
    refine WC_region ?_
    refine WL_val gd0 ((o_assign (v := .int .i64 0) rfl) _) rfl ?_
    refine WL_nil ?_
    refine nrm ?_
    refine WC_block ?_
    obtain ⟨J53, ⟨n53, h0⟩, hr53⟩ := h
    refine WC_loop (fun n ρ w' => ∃ (best48 sum50 i52 : Int), ρ 7 = .int .i64 best48 ∧ ρ 8 = .int .i64 sum50 ∧ ρ 9 = .int .i64 i52 ∧ ρ 0 = .pointer m1 ∧ ρ 1 = .slice ready_a2 ready_n3 ready_c4 ∧ ρ 5 = .int .i64 first9 ∧ J53 n (best48, sum50, i52) w') ⟨n53, _, _, _, rfl, rfl, rfl, e0_6, e1_7, e5_8, h0⟩ ?_
    rintro n53 ρ w53 ⟨best48, sum50, i52, e7_47, e8_49, e9_51, e0_44, e1_45, e5_46, h⟩
    have h : F14_b2 p14 first9 ready_a2 ready_n3 ready_c4 best48 sum50 i52 w53 (fun x0 x1 x2 w => ∃ m, m < n53 ∧ J53 m (x0, x1, x2) w) k := hr53 n53 (best48, sum50, i52) w53 h
    unfold F14_b2 at h
    refine WC_seq ?_
    refine WC_seq ?_
    refine WC_region ?_
    refine WL_val gd0 ((o_move (v := .int .i64 i52) (by exact e9_51)) _) rfl ?_
    refine WL_val gd0 ((o_move (v := .pointer m1) (by exact e0_44)) _) rfl ?_
    refine WL_val gd0 ((o_nilCheck (by exact (congrArg Value.pointer q15))) _) rfl ?_
    refine WL_val gd0 ((o_fieldAddr0 Try.underlying30 rfl Try.sizeOf22 rfl rfl rfl) _) rfl ?_
    obtain ⟨x_a55, x_n56, x_c57, hc58, h⟩ := h
    refine WL_val gd0 (o_load Try.isAgg22 rfl hc58) rfl ?_
    refine WL_val gd0 ((o_len Try.underlying22 rfl) _) rfl ?_
    refine WL_val gd0 ((o_lss rfl rfl) _) rfl ?_
    refine WL_nil ?_
    refine nrm ?_
    refine WC_cond (t := (decide (i52 < (x_n56 : Int)))) rfl (fun hb59 => ?_) (fun hb59 => ?_)
    · rw [if_pos (of_decide_eq_true hb59)] at h
      refine WC_skip ?_
      refine nrm ?_
      refine WC_seq ?_
      refine WC_block ?_
      refine WC_seq ?_
      refine WC_seq ?_
      refine WC_region ?_
      refine WL_val gd0 ((o_move (v := .pointer m1) (by exact e0_44)) _) rfl ?_
      refine WL_val gd0 ((o_nilCheck (by exact (congrArg Value.pointer q15))) _) rfl ?_
      refine WL_val gd0 ((o_fieldAddr0 Try.underlying30 rfl Try.sizeOf22 rfl rfl rfl) _) rfl ?_
      obtain ⟨x_a60, x_n61, x_c62, hc63, h⟩ := h
      refine WL_val gd0 (o_load Try.isAgg22 rfl hc63) rfl ?_
      refine WL_val gd0 ((o_move (v := .int .i64 i52) (by exact e9_51)) _) rfl ?_
      obtain ⟨p66, q67, h⟩ := h
      obtain ⟨l64, u65, h⟩ := h
      refine WL_val gd0 ((o_indexAddr Try.underlying22 Try.sizeOf35 (by exact (congrArg (fun z => Value.slice z x_n61 x_c62) q67)) rfl l64 u65) _) rfl ?_
      refine WL_val gd0 ((o_fieldAddr 1 Try.underlying35 rfl Try.sizeOf3 rfl rfl rfl) _) rfl ?_
      obtain ⟨x68, hc69, h⟩ := h
      refine WL_val gd0 (o_load Try.isAgg3 rfl hc69) rfl ?_
      refine WL_val gd0 ((o_move (v := .int .i64 first9) (by exact e5_46)) _) rfl ?_
      refine WL_val gd0 ((o_neq rfl rfl) _) rfl ?_
      refine WL_val gd0 ((o_move (v := .bool (decide (x68 ≠ first9))) rfl) _) rfl ?_
      refine bsplit (decide (x68 ≠ first9)) (fun hb70 => ?_) (fun hb70 => ?_)
      · rw [if_pos (of_decide_eq_true hb70)] at h
        refine WL_skip (gdN (b := (decide (x68 ≠ first9))) 58 rfl rfl hb70) rfl ?_
        refine WL_skip (gdN (b := (decide (x68 ≠ first9))) 58 rfl rfl hb70) rfl ?_
        refine WL_skip (gdN (b := (decide (x68 ≠ first9))) 58 rfl rfl hb70) rfl ?_
        refine WL_skip (gdN (b := (decide (x68 ≠ first9))) 58 rfl rfl hb70) rfl ?_
        refine WL_skip (gdN (b := (decide (x68 ≠ first9))) 58 rfl rfl hb70) rfl ?_
        refine WL_skip (gdN (b := (decide (x68 ≠ first9))) 58 rfl rfl hb70) rfl ?_
        refine WL_skip (gdN (b := (decide (x68 ≠ first9))) 58 rfl rfl hb70) rfl ?_
        refine WL_skip (gdN (b := (decide (x68 ≠ first9))) 58 rfl rfl hb70) rfl ?_
        refine WL_skip (gdN (b := (decide (x68 ≠ first9))) 58 rfl rfl hb70) rfl ?_
        refine WL_skip (gdN (b := (decide (x68 ≠ first9))) 58 rfl rfl hb70) rfl ?_
        refine WL_skip (gdN (b := (decide (x68 ≠ first9))) 58 rfl rfl hb70) rfl ?_
        refine WL_val gd0 ((o_pickT (v := .bool true) rfl hb70 rfl) _) rfl ?_
        refine WL_nil ?_
        refine nrm ?_
        refine WC_cond (t := true) rfl (fun _ => ?_) (fun hx => by rw [(rfl : true = true)] at hx; cases hx)
        refine WC_exit ?_
        refine exT ?_
        refine exB ?_
        refine nrm ?_
        refine WC_region ?_
        refine WL_val gd0 ((o_move (v := .int .i64 i52) (by exact e9_51)) _) rfl ?_
        refine WL_val gd0 ((o_add rfl rfl) _) rfl ?_
        refine WL_val gd0 ((o_assign (v := .int .i64 (IntKind.i64.wrap (i52 + 1))) rfl) _) rfl ?_
        refine WL_nil ?_
        refine nrm ?_
        obtain ⟨m54, hm54, h⟩ := h
        exact ⟨m54, hm54, _, _, _, e7_47, e8_49, rfl, e0_44, e1_45, e5_46, h⟩
      · rw [if_neg (of_decide_eq_false hb70)] at h
        refine WL_val (gdY (b := (decide (x68 ≠ first9))) 58 rfl rfl hb70) ((o_move (v := .slice ready_a2 ready_n3 ready_c4) (by exact e1_45)) _) rfl ?_
        refine WL_val (gdY (b := (decide (x68 ≠ first9))) 58 rfl rfl hb70) ((o_move (v := .pointer m1) (by exact e0_44)) _) rfl ?_
        refine WL_val (gdY (b := (decide (x68 ≠ first9))) 58 rfl rfl hb70) ((o_nilCheck (by exact (congrArg Value.pointer q15))) _) rfl ?_
        refine WL_val (gdY (b := (decide (x68 ≠ first9))) 58 rfl rfl hb70) ((o_fieldAddr0 Try.underlying30 rfl Try.sizeOf22 rfl rfl rfl) _) rfl ?_
        obtain ⟨x_a71, x_n72, x_c73, hc74, h⟩ := h
        refine WL_val (gdY (b := (decide (x68 ≠ first9))) 58 rfl rfl hb70) (o_load Try.isAgg22 rfl hc74) rfl ?_
        refine WL_val (gdY (b := (decide (x68 ≠ first9))) 58 rfl rfl hb70) ((o_move (v := .int .i64 i52) (by exact e9_51)) _) rfl ?_
        obtain ⟨p77, q78, h⟩ := h
        obtain ⟨l75, u76, h⟩ := h
        refine WL_val (gdY (b := (decide (x68 ≠ first9))) 58 rfl rfl hb70) ((o_indexAddr Try.underlying22 Try.sizeOf35 (by exact (congrArg (fun z => Value.slice z x_n72 x_c73) q78)) rfl l75 u76) _) rfl ?_
        refine WL_val (gdY (b := (decide (x68 ≠ first9))) 58 rfl rfl hb70) ((o_fieldAddr0 Try.underlying35 rfl Try.sizeOf3 rfl rfl rfl) _) rfl ?_
        obtain ⟨x79, hc80, h⟩ := h
        refine WL_val (gdY (b := (decide (x68 ≠ first9))) 58 rfl rfl hb70) (o_load Try.isAgg3 rfl hc80) rfl ?_
        refine WL_call (gdY (b := (decide (x68 ≠ first9))) 58 rfl rfl hb70) (o_call Try.call25 (argCons rfl (argCons rfl argNil)) _) rfl (h.mono ?_)
        rintro _ w81 ⟨x82, rfl, h⟩
        refine WL_val (gdY (b := (decide (x68 ≠ first9))) 58 rfl rfl hb70) ((o_not rfl) _) rfl ?_
        refine WL_val gd0 ((o_pickF (v := .bool (!x82)) rfl hb70 rfl) _) rfl ?_
        refine WL_nil ?_
        refine nrm ?_
        refine WC_cond (t := (!x82)) rfl (fun hb83 => ?_) (fun hb83 => ?_)
        · rw [if_pos hb83] at h
          refine WC_exit ?_
          refine exT ?_
          refine exB ?_
          refine nrm ?_
          refine WC_region ?_
          refine WL_val gd0 ((o_move (v := .int .i64 i52) (by exact e9_51)) _) rfl ?_
          refine WL_val gd0 ((o_add rfl rfl) _) rfl ?_
          refine WL_val gd0 ((o_assign (v := .int .i64 (IntKind.i64.wrap (i52 + 1))) rfl) _) rfl ?_
          refine WL_nil ?_
          refine nrm ?_
          obtain ⟨m54, hm54, h⟩ := h
          exact ⟨m54, hm54, _, _, _, e7_47, e8_49, rfl, e0_44, e1_45, e5_46, h⟩
        · rw [if_neg (neT hb83)] at h
          refine WC_skip ?_
          refine nrm ?_
          refine WC_seq ?_
          refine WC_draws [22] (.look 0 (.look 1 (.look 2 (.look 3 (.look 4 (.look 5 (.look 6 (.look 7 (.look 8 (.look 9 (.look 10 (.look 11 (.look 12 (.look 13 (.look 14 (.look 15 (.look 16 (.look 17 (.look 18 (.look 19 (.look 20 (.look 21 (.act 22 .nil))))))))))))))))))))))) Try.mixed (by kernel_rfl) ?_
          refine WQ_val rfl gd0 (o_move (v := .pointer m1) (by exact e0_44)) rfl ?_
          refine WQ_val rfl gd0 (o_nilCheck (by exact (congrArg Value.pointer q15))) rfl ?_
          refine WQ_val rfl gd0 (o_fieldAddr 1 Try.underlying30 rfl Try.sizeOf28 rfl rfl rfl) rfl ?_
          obtain ⟨x_a84, x_n85, x_c86, hc87, h⟩ := h
          refine WQ_look (fun w => w.cell? (p14.add 1) = some (.slice x_a84 x_n85 x_c86)) rfl gd0 (fun w hc => (o_load Try.isAgg28 rfl hc)) hc87 rfl ?_
          refine WQ_val rfl gd0 (o_move (v := .int .i64 i52) (by exact e9_51)) rfl ?_
          refine WQ_val rfl gd0 (o_move (v := .pointer m1) (by exact e0_44)) rfl ?_
          refine WQ_val rfl gd0 (o_nilCheck (by exact (congrArg Value.pointer q15))) rfl ?_
          refine WQ_val rfl gd0 (o_fieldAddr 1 Try.underlying30 rfl Try.sizeOf28 rfl rfl rfl) rfl ?_
          obtain ⟨x_a88, x_n89, x_c90, hc91, h⟩ := h
          refine WQ_look (fun w => w.cell? (p14.add 1) = some (.slice x_a88 x_n89 x_c90)) rfl gd0 (fun w hc => (o_load Try.isAgg28 rfl hc)) hc91 rfl ?_
          refine WQ_val rfl gd0 (o_move (v := .int .i64 i52) (by exact e9_51)) rfl ?_
          obtain ⟨p94, q95, h⟩ := h
          obtain ⟨l92, u93, h⟩ := h
          refine WQ_val rfl gd0 (o_indexAddr1 Try.underlying28 Try.sizeOf3 (by exact (congrArg (fun z => Value.slice z x_n89 x_c90) q95)) rfl l92 u93) rfl ?_
          obtain ⟨x96, hc97, h⟩ := h
          refine WQ_look (fun w => w.cell? (p94.add i52.toNat) = some (.int .i64 x96)) rfl gd0 (fun w hc => (o_load Try.isAgg3 rfl hc)) hc97 rfl ?_
          refine WQ_val rfl gd0 (o_move (v := .pointer m1) (by exact e0_44)) rfl ?_
          refine WQ_val rfl gd0 (o_nilCheck (by exact (congrArg Value.pointer q15))) rfl ?_
          refine WQ_val rfl gd0 (o_fieldAddr0 Try.underlying30 rfl Try.sizeOf22 rfl rfl rfl) rfl ?_
          obtain ⟨x_a98, x_n99, x_c100, hc101, h⟩ := h
          refine WQ_look (fun w => w.cell? p14 = some (.slice x_a98 x_n99 x_c100)) rfl gd0 (fun w hc => (o_load Try.isAgg22 rfl hc)) hc101 rfl ?_
          refine WQ_val rfl gd0 (o_move (v := .int .i64 i52) (by exact e9_51)) rfl ?_
          obtain ⟨p104, q105, h⟩ := h
          obtain ⟨l102, u103, h⟩ := h
          refine WQ_val rfl gd0 (o_indexAddr Try.underlying22 Try.sizeOf35 (by exact (congrArg (fun z => Value.slice z x_n99 x_c100) q105)) rfl l102 u103) rfl ?_
          refine WQ_val rfl gd0 (o_fieldAddr 2 Try.underlying35 rfl Try.sizeOf3 rfl rfl rfl) rfl ?_
          obtain ⟨x106, hc107, h⟩ := h
          refine WQ_look (fun w => w.cell? ((p104.add (i52.toNat * 3)).add 2) = some (.int .i64 x106)) rfl gd0 (fun w hc => (o_load Try.isAgg3 rfl hc)) hc107 rfl ?_
          refine WQ_val rfl gd0 (o_add rfl rfl) rfl ?_
          obtain ⟨p110, q111, h⟩ := h
          obtain ⟨l108, u109, h⟩ := h
          refine WQ_val rfl gd0 (o_indexAddr1 Try.underlying28 Try.sizeOf3 (by exact (congrArg (fun z => Value.slice z x_n85 x_c86) q111)) rfl l108 u109) rfl ?_
          obtain ⟨c113, h⟩ := h
          refine WQ_do rfl gd0 (o_store (v := .int .i64 (IntKind.i64.wrap (x96 + x106))) Try.sizeOf3 rfl rfl rfl c113) (by exact ⟨⟨⟨⟨⟨trivial, depT (by kernel_rfl)⟩, depT (by kernel_rfl)⟩, depT (by kernel_rfl)⟩, depT (by kernel_rfl)⟩, depT (by kernel_rfl)⟩) ?_
          generalize hw112 : World.setCell w81.drew (p110.add i52.toNat) (.int .i64 (IntKind.i64.wrap (x96 + x106))) = w112 at h ⊢
          try dsimp only at h
          refine WQ_nil ?_
          refine nrm ?_
          refine WC_seq ?_
          refine WC_region ?_
          refine WL_val gd0 ((o_move (v := .int .i64 sum50) (by exact e8_49)) _) rfl ?_
          refine WL_val gd0 ((o_move (v := .pointer m1) (by exact e0_44)) _) rfl ?_
          refine WL_val gd0 ((o_nilCheck (by exact (congrArg Value.pointer q15))) _) rfl ?_
          refine WL_val gd0 ((o_fieldAddr0 Try.underlying30 rfl Try.sizeOf22 rfl rfl rfl) _) rfl ?_
          obtain ⟨x_a114, x_n115, x_c116, hc117, h⟩ := h
          refine WL_val gd0 (o_load Try.isAgg22 rfl hc117) rfl ?_
          refine WL_val gd0 ((o_move (v := .int .i64 i52) (by exact e9_51)) _) rfl ?_
          obtain ⟨p120, q121, h⟩ := h
          obtain ⟨l118, u119, h⟩ := h
          refine WL_val gd0 ((o_indexAddr Try.underlying22 Try.sizeOf35 (by exact (congrArg (fun z => Value.slice z x_n115 x_c116) q121)) rfl l118 u119) _) rfl ?_
          refine WL_val gd0 ((o_fieldAddr 2 Try.underlying35 rfl Try.sizeOf3 rfl rfl rfl) _) rfl ?_
          obtain ⟨x122, hc123, h⟩ := h
          refine WL_val gd0 (o_load Try.isAgg3 rfl hc123) rfl ?_
          refine WL_val gd0 ((o_add rfl rfl) _) rfl ?_
          refine WL_val gd0 ((o_assign (v := .int .i64 (IntKind.i64.wrap (sum50 + x122))) rfl) _) rfl ?_
          refine WL_nil ?_
          refine nrm ?_
          refine WC_cut (fun ρ w' => ∃ (t131 : Bool), ρ 157 = .bool t131 ∧ ρ 0 = .pointer m1 ∧ ρ 1 = .slice ready_a2 ready_n3 ready_c4 ∧ ρ 5 = .int .i64 first9 ∧ ρ 7 = .int .i64 best48 ∧ ρ 8 = .int .i64 (IntKind.i64.wrap (sum50 + x122)) ∧ ρ 9 = .int .i64 i52 ∧ F14_j3 i52 sum50 x122 best48 t131 w' (fun x0 x1 x2 w => ∃ m, m < n53 ∧ J53 m (x0, x1, x2) w)) ?_ ?_
          · refine WC_draws [] (.look 0 (.look 1 (.look 2 (.look 3 (.look 4 (.look 5 (.look 6 (.look 7 (.look 8 (.look 9 (.look 10 (.look 11 (.look 12 (.look 13 (.look 14 (.look 15 (.look 16 (.look 17 (.look 18 (.look 19 (.look 20 (.look 21 (.look 22 (.look 23 (.look 24 (.look 25 (.look 26 (.look 27 (.look 28 (.look 29 (.look 30 (.look 31 (.look 32 (.look 33 (.look 34 (.look 35 (.look 36 (.look 37 (.look 38 (.look 39 (.look 40 (.look 41 (.look 42 (.look 43 (.look 44 (.look 45 (.look 46 (.look 47 (.look 48 (.look 49 (.look 50 (.look 51 (.look 52 (.look 53 (.look 54 .nil))))))))))))))))))))))))))))))))))))))))))))))))))))))) Try.mixed (by kernel_rfl) ?_
            refine WQ_val rfl gd0 (o_move (v := .int .i64 best48) (by exact e7_47)) rfl ?_
            refine WQ_val rfl gd0 (o_lss rfl rfl) rfl ?_
            refine WQ_val rfl gd0 (o_move (v := .bool (decide (best48 < 0))) rfl) rfl ?_
            refine bsplit (decide (best48 < 0)) (fun hb134 => ?_) (fun hb134 => ?_)
            · rw [if_pos (of_decide_eq_true hb134)] at h
              refine WQ_skip rfl (gdN (b := (decide (best48 < 0))) 105 rfl rfl hb134) rfl ?_
              refine WQ_skip rfl (gdN (b := (decide (best48 < 0))) 105 rfl rfl hb134) rfl ?_
              refine WQ_skip rfl (gdN (b := (decide (best48 < 0))) 105 rfl rfl hb134) rfl ?_
              refine WQ_skip rfl (gdN (b := (decide (best48 < 0))) 105 rfl rfl hb134) rfl ?_
              refine WQ_skip rfl (gdN (b := (decide (best48 < 0))) 105 rfl rfl hb134) rfl ?_
              refine WQ_skip rfl (gdN (b := (decide (best48 < 0))) 105 rfl rfl hb134) rfl ?_
              refine WQ_skip rfl (gdN (b := (decide (best48 < 0))) 105 rfl rfl hb134) rfl ?_
              refine WQ_skip rfl (gdN (b := (decide (best48 < 0))) 105 rfl rfl hb134) rfl ?_
              refine WQ_skip rfl (gdN (b := (decide (best48 < 0))) 105 rfl rfl hb134) rfl ?_
              refine WQ_skip rfl (gdN (b := (decide (best48 < 0))) 105 rfl rfl hb134) rfl ?_
              refine WQ_skip rfl (gdN (b := (decide (best48 < 0))) 105 rfl rfl hb134) rfl ?_
              refine WQ_skip rfl (gdN (b := (decide (best48 < 0))) 105 rfl rfl hb134) rfl ?_
              refine WQ_skip rfl (gdN (b := (decide (best48 < 0))) 105 rfl rfl hb134) rfl ?_
              refine WQ_skip rfl (gdN (b := (decide (best48 < 0))) 105 rfl rfl hb134) rfl ?_
              refine WQ_skip rfl (gdN (b := (decide (best48 < 0))) 105 rfl rfl hb134) rfl ?_
              refine WQ_val rfl gd0 (o_pickT (v := .bool true) rfl hb134 rfl) rfl ?_
              refine WQ_val rfl gd0 (o_move (v := .bool true) rfl) rfl ?_
              refine WQ_skip rfl (gdN (b := true) 122 rfl rfl rfl) rfl ?_
              refine WQ_skip rfl (gdN (b := true) 122 rfl rfl rfl) rfl ?_
              refine WQ_skip rfl (gdN (b := true) 122 rfl rfl rfl) rfl ?_
              refine WQ_skip rfl (gdN (b := true) 122 rfl rfl rfl) rfl ?_
              refine WQ_skip rfl (gdN (b := true) 122 rfl rfl rfl) rfl ?_
              refine WQ_skip rfl (gdN (b := true) 122 rfl rfl rfl) rfl ?_
              refine WQ_skip rfl (gdN (b := true) 122 rfl rfl rfl) rfl ?_
              refine WQ_skip rfl (gdN (b := true) 122 rfl rfl rfl) rfl ?_
              refine WQ_skip rfl (gdN (b := true) 122 rfl rfl rfl) rfl ?_
              refine WQ_skip rfl (gdN (b := true) 122 rfl rfl rfl) rfl ?_
              refine WQ_skip rfl (gdN (b := true) 122 rfl rfl rfl) rfl ?_
              refine WQ_skip rfl (gdN (b := true) 122 rfl rfl rfl) rfl ?_
              refine WQ_skip rfl (gdN (b := true) 122 rfl rfl rfl) rfl ?_
              refine WQ_skip rfl (gdN (b := true) 122 rfl rfl rfl) rfl ?_
              refine WQ_skip rfl (gdN (b := true) 122 rfl rfl rfl) rfl ?_
              refine WQ_skip rfl (gdN (b := true) 122 rfl rfl rfl) rfl ?_
              refine WQ_skip rfl (gdU 138 rfl rfl) rfl ?_
              refine WQ_skip rfl (gdU 138 rfl rfl) rfl ?_
              refine WQ_skip rfl (gdU 138 rfl rfl) rfl ?_
              refine WQ_skip rfl (gdU 138 rfl rfl) rfl ?_
              refine WQ_skip rfl (gdU 138 rfl rfl) rfl ?_
              refine WQ_skip rfl (gdU 138 rfl rfl) rfl ?_
              refine WQ_skip rfl (gdU 138 rfl rfl) rfl ?_
              refine WQ_skip rfl (gdU 138 rfl rfl) rfl ?_
              refine WQ_skip rfl (gdU 138 rfl rfl) rfl ?_
              refine WQ_skip rfl (gdU 138 rfl rfl) rfl ?_
              refine WQ_skip rfl (gdU 138 rfl rfl) rfl ?_
              refine WQ_skip rfl (gdU 138 rfl rfl) rfl ?_
              refine WQ_skip rfl (gdU 138 rfl rfl) rfl ?_
              refine WQ_skip rfl (gdU 138 rfl rfl) rfl ?_
              refine WQ_skip rfl (gdU 138 rfl rfl) rfl ?_
              refine WQ_skip rfl (gdU 138 rfl rfl) rfl ?_
              refine WQ_skip rfl (gdU 138 rfl rfl) rfl ?_
              refine WQ_skip rfl (gdN (b := true) 122 rfl rfl rfl) rfl ?_
              refine WQ_val rfl gd0 (o_pickT (v := .bool true) rfl rfl rfl) rfl ?_
              refine WQ_nil ?_
              refine nrm ?_
              exact ⟨_, rfl, e0_44, e1_45, e5_46, e7_47, rfl, e9_51, h⟩
            · rw [if_neg (of_decide_eq_false hb134)] at h
              refine WQ_val rfl (gdY (b := (decide (best48 < 0))) 105 rfl rfl hb134) (o_move (v := .pointer m1) (by exact e0_44)) rfl ?_
              refine WQ_val rfl (gdY (b := (decide (best48 < 0))) 105 rfl rfl hb134) (o_nilCheck (by exact (congrArg Value.pointer q15))) rfl ?_
              refine WQ_val rfl (gdY (b := (decide (best48 < 0))) 105 rfl rfl hb134) (o_fieldAddr 1 Try.underlying30 rfl Try.sizeOf28 rfl rfl rfl) rfl ?_
              obtain ⟨x_a135, x_n136, x_c137, hc138, h⟩ := h
              refine WQ_look (fun w => w.cell? (p14.add 1) = some (.slice x_a135 x_n136 x_c137)) rfl (gdY (b := (decide (best48 < 0))) 105 rfl rfl hb134) (fun w hc => (o_load Try.isAgg28 rfl hc)) hc138 rfl ?_
              refine WQ_val rfl (gdY (b := (decide (best48 < 0))) 105 rfl rfl hb134) (o_move (v := .int .i64 i52) (by exact e9_51)) rfl ?_
              obtain ⟨p141, q142, h⟩ := h
              obtain ⟨l139, u140, h⟩ := h
              refine WQ_val rfl (gdY (b := (decide (best48 < 0))) 105 rfl rfl hb134) (o_indexAddr1 Try.underlying28 Try.sizeOf3 (by exact (congrArg (fun z => Value.slice z x_n136 x_c137) q142)) rfl l139 u140) rfl ?_
              obtain ⟨x143, hc144, h⟩ := h
              refine WQ_look (fun w => w.cell? (p141.add i52.toNat) = some (.int .i64 x143)) rfl (gdY (b := (decide (best48 < 0))) 105 rfl rfl hb134) (fun w hc => (o_load Try.isAgg3 rfl hc)) hc144 rfl ?_
              refine WQ_val rfl (gdY (b := (decide (best48 < 0))) 105 rfl rfl hb134) (o_move (v := .pointer m1) (by exact e0_44)) rfl ?_
              refine WQ_val rfl (gdY (b := (decide (best48 < 0))) 105 rfl rfl hb134) (o_nilCheck (by exact (congrArg Value.pointer q15))) rfl ?_
              refine WQ_val rfl (gdY (b := (decide (best48 < 0))) 105 rfl rfl hb134) (o_fieldAddr 1 Try.underlying30 rfl Try.sizeOf28 rfl rfl rfl) rfl ?_
              obtain ⟨x_a145, x_n146, x_c147, hc148, h⟩ := h
              refine WQ_look (fun w => w.cell? (p14.add 1) = some (.slice x_a145 x_n146 x_c147)) rfl (gdY (b := (decide (best48 < 0))) 105 rfl rfl hb134) (fun w hc => (o_load Try.isAgg28 rfl hc)) hc148 rfl ?_
              refine WQ_val rfl (gdY (b := (decide (best48 < 0))) 105 rfl rfl hb134) (o_move (v := .int .i64 best48) (by exact e7_47)) rfl ?_
              obtain ⟨p151, q152, h⟩ := h
              obtain ⟨l149, u150, h⟩ := h
              refine WQ_val rfl (gdY (b := (decide (best48 < 0))) 105 rfl rfl hb134) (o_indexAddr1 Try.underlying28 Try.sizeOf3 (by exact (congrArg (fun z => Value.slice z x_n146 x_c147) q152)) rfl l149 u150) rfl ?_
              obtain ⟨x153, hc154, h⟩ := h
              refine WQ_look (fun w => w.cell? (p151.add best48.toNat) = some (.int .i64 x153)) rfl (gdY (b := (decide (best48 < 0))) 105 rfl rfl hb134) (fun w hc => (o_load Try.isAgg3 rfl hc)) hc154 rfl ?_
              refine WQ_val rfl (gdY (b := (decide (best48 < 0))) 105 rfl rfl hb134) (o_gtr rfl rfl) rfl ?_
              refine WQ_val rfl gd0 (o_pickF (v := .bool (decide (x153 < x143))) rfl hb134 rfl) rfl ?_
              refine WQ_val rfl gd0 (o_move (v := .bool (decide (x153 < x143))) rfl) rfl ?_
              refine bsplit (decide (x153 < x143)) (fun hb155 => ?_) (fun hb155 => ?_)
              · rw [if_pos (of_decide_eq_true hb155)] at h
                refine WQ_skip rfl (gdN (b := (decide (x153 < x143))) 122 rfl rfl hb155) rfl ?_
                refine WQ_skip rfl (gdN (b := (decide (x153 < x143))) 122 rfl rfl hb155) rfl ?_
                refine WQ_skip rfl (gdN (b := (decide (x153 < x143))) 122 rfl rfl hb155) rfl ?_
                refine WQ_skip rfl (gdN (b := (decide (x153 < x143))) 122 rfl rfl hb155) rfl ?_
                refine WQ_skip rfl (gdN (b := (decide (x153 < x143))) 122 rfl rfl hb155) rfl ?_
                refine WQ_skip rfl (gdN (b := (decide (x153 < x143))) 122 rfl rfl hb155) rfl ?_
                refine WQ_skip rfl (gdN (b := (decide (x153 < x143))) 122 rfl rfl hb155) rfl ?_
                refine WQ_skip rfl (gdN (b := (decide (x153 < x143))) 122 rfl rfl hb155) rfl ?_
                refine WQ_skip rfl (gdN (b := (decide (x153 < x143))) 122 rfl rfl hb155) rfl ?_
                refine WQ_skip rfl (gdN (b := (decide (x153 < x143))) 122 rfl rfl hb155) rfl ?_
                refine WQ_skip rfl (gdN (b := (decide (x153 < x143))) 122 rfl rfl hb155) rfl ?_
                refine WQ_skip rfl (gdN (b := (decide (x153 < x143))) 122 rfl rfl hb155) rfl ?_
                refine WQ_skip rfl (gdN (b := (decide (x153 < x143))) 122 rfl rfl hb155) rfl ?_
                refine WQ_skip rfl (gdN (b := (decide (x153 < x143))) 122 rfl rfl hb155) rfl ?_
                refine WQ_skip rfl (gdN (b := (decide (x153 < x143))) 122 rfl rfl hb155) rfl ?_
                refine WQ_skip rfl (gdN (b := (decide (x153 < x143))) 122 rfl rfl hb155) rfl ?_
                refine WQ_skip rfl (gdU 138 rfl rfl) rfl ?_
                refine WQ_skip rfl (gdU 138 rfl rfl) rfl ?_
                refine WQ_skip rfl (gdU 138 rfl rfl) rfl ?_
                refine WQ_skip rfl (gdU 138 rfl rfl) rfl ?_
                refine WQ_skip rfl (gdU 138 rfl rfl) rfl ?_
                refine WQ_skip rfl (gdU 138 rfl rfl) rfl ?_
                refine WQ_skip rfl (gdU 138 rfl rfl) rfl ?_
                refine WQ_skip rfl (gdU 138 rfl rfl) rfl ?_
                refine WQ_skip rfl (gdU 138 rfl rfl) rfl ?_
                refine WQ_skip rfl (gdU 138 rfl rfl) rfl ?_
                refine WQ_skip rfl (gdU 138 rfl rfl) rfl ?_
                refine WQ_skip rfl (gdU 138 rfl rfl) rfl ?_
                refine WQ_skip rfl (gdU 138 rfl rfl) rfl ?_
                refine WQ_skip rfl (gdU 138 rfl rfl) rfl ?_
                refine WQ_skip rfl (gdU 138 rfl rfl) rfl ?_
                refine WQ_skip rfl (gdU 138 rfl rfl) rfl ?_
                refine WQ_skip rfl (gdU 138 rfl rfl) rfl ?_
                refine WQ_skip rfl (gdN (b := (decide (x153 < x143))) 122 rfl rfl hb155) rfl ?_
                refine WQ_val rfl gd0 (o_pickT (v := .bool true) rfl hb155 rfl) rfl ?_
                refine WQ_nil ?_
                refine nrm ?_
                exact ⟨_, rfl, e0_44, e1_45, e5_46, e7_47, rfl, e9_51, h⟩
              · rw [if_neg (of_decide_eq_false hb155)] at h
                refine WQ_val rfl (gdY (b := (decide (x153 < x143))) 122 rfl rfl hb155) (o_move (v := .pointer m1) (by exact e0_44)) rfl ?_
                refine WQ_val rfl (gdY (b := (decide (x153 < x143))) 122 rfl rfl hb155) (o_nilCheck (by exact (congrArg Value.pointer q15))) rfl ?_
                refine WQ_val rfl (gdY (b := (decide (x153 < x143))) 122 rfl rfl hb155) (o_fieldAddr 1 Try.underlying30 rfl Try.sizeOf28 rfl rfl rfl) rfl ?_
                obtain ⟨x_a156, x_n157, x_c158, hc159, h⟩ := h
                refine WQ_look (fun w => w.cell? (p14.add 1) = some (.slice x_a156 x_n157 x_c158)) rfl (gdY (b := (decide (x153 < x143))) 122 rfl rfl hb155) (fun w hc => (o_load Try.isAgg28 rfl hc)) hc159 rfl ?_
                refine WQ_val rfl (gdY (b := (decide (x153 < x143))) 122 rfl rfl hb155) (o_move (v := .int .i64 i52) (by exact e9_51)) rfl ?_
                obtain ⟨p162, q163, h⟩ := h
                obtain ⟨l160, u161, h⟩ := h
                refine WQ_val rfl (gdY (b := (decide (x153 < x143))) 122 rfl rfl hb155) (o_indexAddr1 Try.underlying28 Try.sizeOf3 (by exact (congrArg (fun z => Value.slice z x_n157 x_c158) q163)) rfl l160 u161) rfl ?_
                obtain ⟨x164, hc165, h⟩ := h
                refine WQ_look (fun w => w.cell? (p162.add i52.toNat) = some (.int .i64 x164)) rfl (gdY (b := (decide (x153 < x143))) 122 rfl rfl hb155) (fun w hc => (o_load Try.isAgg3 rfl hc)) hc165 rfl ?_
                refine WQ_val rfl (gdY (b := (decide (x153 < x143))) 122 rfl rfl hb155) (o_move (v := .pointer m1) (by exact e0_44)) rfl ?_
                refine WQ_val rfl (gdY (b := (decide (x153 < x143))) 122 rfl rfl hb155) (o_nilCheck (by exact (congrArg Value.pointer q15))) rfl ?_
                refine WQ_val rfl (gdY (b := (decide (x153 < x143))) 122 rfl rfl hb155) (o_fieldAddr 1 Try.underlying30 rfl Try.sizeOf28 rfl rfl rfl) rfl ?_
                obtain ⟨x_a166, x_n167, x_c168, hc169, h⟩ := h
                refine WQ_look (fun w => w.cell? (p14.add 1) = some (.slice x_a166 x_n167 x_c168)) rfl (gdY (b := (decide (x153 < x143))) 122 rfl rfl hb155) (fun w hc => (o_load Try.isAgg28 rfl hc)) hc169 rfl ?_
                refine WQ_val rfl (gdY (b := (decide (x153 < x143))) 122 rfl rfl hb155) (o_move (v := .int .i64 best48) (by exact e7_47)) rfl ?_
                obtain ⟨p172, q173, h⟩ := h
                obtain ⟨l170, u171, h⟩ := h
                refine WQ_val rfl (gdY (b := (decide (x153 < x143))) 122 rfl rfl hb155) (o_indexAddr1 Try.underlying28 Try.sizeOf3 (by exact (congrArg (fun z => Value.slice z x_n167 x_c168) q173)) rfl l170 u171) rfl ?_
                obtain ⟨x174, hc175, h⟩ := h
                refine WQ_look (fun w => w.cell? (p172.add best48.toNat) = some (.int .i64 x174)) rfl (gdY (b := (decide (x153 < x143))) 122 rfl rfl hb155) (fun w hc => (o_load Try.isAgg3 rfl hc)) hc175 rfl ?_
                refine WQ_val rfl (gdY (b := (decide (x153 < x143))) 122 rfl rfl hb155) (o_eql rfl rfl) rfl ?_
                refine WQ_val rfl (gdY (b := (decide (x153 < x143))) 122 rfl rfl hb155) (o_move (v := .bool (decide (x164 = x174))) rfl) rfl ?_
                refine bsplit (decide (x164 = x174)) (fun hb176 => ?_) (fun hb176 => ?_)
                · rw [if_pos (of_decide_eq_true hb176)] at h
                  refine WQ_val rfl (gdY (b := (decide (x164 = x174))) 138 rfl rfl hb176) (o_move (v := .pointer m1) (by exact e0_44)) rfl ?_
                  refine WQ_val rfl (gdY (b := (decide (x164 = x174))) 138 rfl rfl hb176) (o_nilCheck (by exact (congrArg Value.pointer q15))) rfl ?_
                  refine WQ_val rfl (gdY (b := (decide (x164 = x174))) 138 rfl rfl hb176) (o_fieldAddr0 Try.underlying30 rfl Try.sizeOf22 rfl rfl rfl) rfl ?_
                  obtain ⟨x_a177, x_n178, x_c179, hc180, h⟩ := h
                  refine WQ_look (fun w => w.cell? p14 = some (.slice x_a177 x_n178 x_c179)) rfl (gdY (b := (decide (x164 = x174))) 138 rfl rfl hb176) (fun w hc => (o_load Try.isAgg22 rfl hc)) hc180 rfl ?_
                  refine WQ_val rfl (gdY (b := (decide (x164 = x174))) 138 rfl rfl hb176) (o_move (v := .int .i64 i52) (by exact e9_51)) rfl ?_
                  obtain ⟨p183, q184, h⟩ := h
                  obtain ⟨l181, u182, h⟩ := h
                  refine WQ_val rfl (gdY (b := (decide (x164 = x174))) 138 rfl rfl hb176) (o_indexAddr Try.underlying22 Try.sizeOf35 (by exact (congrArg (fun z => Value.slice z x_n178 x_c179) q184)) rfl l181 u182) rfl ?_
                  refine WQ_val rfl (gdY (b := (decide (x164 = x174))) 138 rfl rfl hb176) (o_fieldAddr0 Try.underlying35 rfl Try.sizeOf3 rfl rfl rfl) rfl ?_
                  obtain ⟨x185, hc186, h⟩ := h
                  refine WQ_look (fun w => w.cell? (p183.add (i52.toNat * 3)) = some (.int .i64 x185)) rfl (gdY (b := (decide (x164 = x174))) 138 rfl rfl hb176) (fun w hc => (o_load Try.isAgg3 rfl hc)) hc186 rfl ?_
                  refine WQ_val rfl (gdY (b := (decide (x164 = x174))) 138 rfl rfl hb176) (o_move (v := .pointer m1) (by exact e0_44)) rfl ?_
                  refine WQ_val rfl (gdY (b := (decide (x164 = x174))) 138 rfl rfl hb176) (o_nilCheck (by exact (congrArg Value.pointer q15))) rfl ?_
                  refine WQ_val rfl (gdY (b := (decide (x164 = x174))) 138 rfl rfl hb176) (o_fieldAddr0 Try.underlying30 rfl Try.sizeOf22 rfl rfl rfl) rfl ?_
                  obtain ⟨x_a187, x_n188, x_c189, hc190, h⟩ := h
                  refine WQ_look (fun w => w.cell? p14 = some (.slice x_a187 x_n188 x_c189)) rfl (gdY (b := (decide (x164 = x174))) 138 rfl rfl hb176) (fun w hc => (o_load Try.isAgg22 rfl hc)) hc190 rfl ?_
                  refine WQ_val rfl (gdY (b := (decide (x164 = x174))) 138 rfl rfl hb176) (o_move (v := .int .i64 best48) (by exact e7_47)) rfl ?_
                  obtain ⟨p193, q194, h⟩ := h
                  obtain ⟨l191, u192, h⟩ := h
                  refine WQ_val rfl (gdY (b := (decide (x164 = x174))) 138 rfl rfl hb176) (o_indexAddr Try.underlying22 Try.sizeOf35 (by exact (congrArg (fun z => Value.slice z x_n188 x_c189) q194)) rfl l191 u192) rfl ?_
                  refine WQ_val rfl (gdY (b := (decide (x164 = x174))) 138 rfl rfl hb176) (o_fieldAddr0 Try.underlying35 rfl Try.sizeOf3 rfl rfl rfl) rfl ?_
                  obtain ⟨x195, hc196, h⟩ := h
                  refine WQ_look (fun w => w.cell? (p193.add (best48.toNat * 3)) = some (.int .i64 x195)) rfl (gdY (b := (decide (x164 = x174))) 138 rfl rfl hb176) (fun w hc => (o_load Try.isAgg3 rfl hc)) hc196 rfl ?_
                  refine WQ_val rfl (gdY (b := (decide (x164 = x174))) 138 rfl rfl hb176) (o_lss rfl rfl) rfl ?_
                  refine WQ_val rfl (gdY (b := (decide (x153 < x143))) 122 rfl rfl hb155) (o_pickT (v := .bool (decide (x185 < x195))) rfl hb176 rfl) rfl ?_
                  refine WQ_val rfl gd0 (o_pickF (v := .bool (decide (x185 < x195))) rfl hb155 rfl) rfl ?_
                  refine WQ_nil ?_
                  refine nrm ?_
                  exact ⟨_, rfl, e0_44, e1_45, e5_46, e7_47, rfl, e9_51, h⟩
                · rw [if_neg (of_decide_eq_false hb176)] at h
                  refine WQ_skip rfl (gdN (b := (decide (x164 = x174))) 138 rfl rfl hb176) rfl ?_
                  refine WQ_skip rfl (gdN (b := (decide (x164 = x174))) 138 rfl rfl hb176) rfl ?_
                  refine WQ_skip rfl (gdN (b := (decide (x164 = x174))) 138 rfl rfl hb176) rfl ?_
                  refine WQ_skip rfl (gdN (b := (decide (x164 = x174))) 138 rfl rfl hb176) rfl ?_
                  refine WQ_skip rfl (gdN (b := (decide (x164 = x174))) 138 rfl rfl hb176) rfl ?_
                  refine WQ_skip rfl (gdN (b := (decide (x164 = x174))) 138 rfl rfl hb176) rfl ?_
                  refine WQ_skip rfl (gdN (b := (decide (x164 = x174))) 138 rfl rfl hb176) rfl ?_
                  refine WQ_skip rfl (gdN (b := (decide (x164 = x174))) 138 rfl rfl hb176) rfl ?_
                  refine WQ_skip rfl (gdN (b := (decide (x164 = x174))) 138 rfl rfl hb176) rfl ?_
                  refine WQ_skip rfl (gdN (b := (decide (x164 = x174))) 138 rfl rfl hb176) rfl ?_
                  refine WQ_skip rfl (gdN (b := (decide (x164 = x174))) 138 rfl rfl hb176) rfl ?_
                  refine WQ_skip rfl (gdN (b := (decide (x164 = x174))) 138 rfl rfl hb176) rfl ?_
                  refine WQ_skip rfl (gdN (b := (decide (x164 = x174))) 138 rfl rfl hb176) rfl ?_
                  refine WQ_skip rfl (gdN (b := (decide (x164 = x174))) 138 rfl rfl hb176) rfl ?_
                  refine WQ_skip rfl (gdN (b := (decide (x164 = x174))) 138 rfl rfl hb176) rfl ?_
                  refine WQ_skip rfl (gdN (b := (decide (x164 = x174))) 138 rfl rfl hb176) rfl ?_
                  refine WQ_skip rfl (gdN (b := (decide (x164 = x174))) 138 rfl rfl hb176) rfl ?_
                  refine WQ_val rfl (gdY (b := (decide (x153 < x143))) 122 rfl rfl hb155) (o_pickF (v := .bool false) rfl hb176 rfl) rfl ?_
                  refine WQ_val rfl gd0 (o_pickF (v := .bool false) rfl hb155 rfl) rfl ?_
                  refine WQ_nil ?_
                  refine nrm ?_
                  exact ⟨_, rfl, e0_44, e1_45, e5_46, e7_47, rfl, e9_51, h⟩
          · rintro ρ w132 ⟨t131, e157_130, e0_124, e1_125, e5_126, e7_127, e8_128, e9_129, h⟩
            unfold F14_j3 at h
            refine WC_cond (t := t131) (by exact e157_130) (fun hb133 => ?_) (fun hb133 => ?_)
            · rw [if_pos hb133] at h
              refine WC_region ?_
              refine WL_val gd0 ((o_move (v := .int .i64 i52) (by exact e9_129)) _) rfl ?_
              refine WL_val gd0 ((o_assign (v := .int .i64 i52) rfl) _) rfl ?_
              refine WL_nil ?_
              refine nrmB ?_
              refine nrm ?_
              refine WC_region ?_
              refine WL_val gd0 ((o_move (v := .int .i64 i52) (by exact e9_129)) _) rfl ?_
              refine WL_val gd0 ((o_add rfl rfl) _) rfl ?_
              refine WL_val gd0 ((o_assign (v := .int .i64 (IntKind.i64.wrap (i52 + 1))) rfl) _) rfl ?_
              refine WL_nil ?_
              refine nrm ?_
              obtain ⟨m54, hm54, h⟩ := h
              exact ⟨m54, hm54, _, _, _, rfl, e8_128, rfl, e0_124, e1_125, e5_126, h⟩
            · rw [if_neg (neT hb133)] at h
              refine WC_skip ?_
              refine nrmB ?_
              refine nrm ?_
              refine WC_region ?_
              refine WL_val gd0 ((o_move (v := .int .i64 i52) (by exact e9_129)) _) rfl ?_
              refine WL_val gd0 ((o_add rfl rfl) _) rfl ?_
              refine WL_val gd0 ((o_assign (v := .int .i64 (IntKind.i64.wrap (i52 + 1))) rfl) _) rfl ?_
              refine WL_nil ?_
              refine nrm ?_
              obtain ⟨m54, hm54, h⟩ := h
              exact ⟨m54, hm54, _, _, _, e7_127, e8_128, rfl, e0_124, e1_125, e5_126, h⟩
    · rw [if_neg (of_decide_eq_false hb59)] at h
      refine WC_exit ?_
      refine exT ?_
      refine exT ?_
      refine exB ?_
      refine nrm ?_
      refine WC_seq ?_
      refine WC_seq ?_
      refine WC_region ?_
      refine WL_val gd0 ((o_move (v := .int .i64 best48) (by exact e7_47)) _) rfl ?_
      refine WL_val gd0 ((o_geq rfl rfl) _) rfl ?_
      refine WL_nil ?_
      refine nrm ?_
      refine WC_cond (t := (decide (0 ≤ best48))) rfl (fun hb197 => ?_) (fun hb197 => ?_)
      · rw [if_pos (of_decide_eq_true hb197)] at h
        refine WC_seq ?_
        refine WC_draws [15] (.look 0 (.look 1 (.look 2 (.look 3 (.look 4 (.look 5 (.look 6 (.look 7 (.look 8 (.look 9 (.look 10 (.look 11 (.look 12 (.look 13 (.look 14 (.act 15 .nil)))))))))))))))) Try.mixed (by kernel_rfl) ?_
        refine WQ_val rfl gd0 (o_move (v := .pointer m1) (by exact e0_44)) rfl ?_
        refine WQ_val rfl gd0 (o_nilCheck (by exact (congrArg Value.pointer q15))) rfl ?_
        refine WQ_val rfl gd0 (o_fieldAddr 1 Try.underlying30 rfl Try.sizeOf28 rfl rfl rfl) rfl ?_
        obtain ⟨x_a198, x_n199, x_c200, hc201, h⟩ := h
        refine WQ_look (fun w => w.cell? (p14.add 1) = some (.slice x_a198 x_n199 x_c200)) rfl gd0 (fun w hc => (o_load Try.isAgg28 rfl hc)) hc201 rfl ?_
        refine WQ_val rfl gd0 (o_move (v := .int .i64 best48) (by exact e7_47)) rfl ?_
        refine WQ_val rfl gd0 (o_move (v := .pointer m1) (by exact e0_44)) rfl ?_
        refine WQ_val rfl gd0 (o_nilCheck (by exact (congrArg Value.pointer q15))) rfl ?_
        refine WQ_val rfl gd0 (o_fieldAddr 1 Try.underlying30 rfl Try.sizeOf28 rfl rfl rfl) rfl ?_
        obtain ⟨x_a202, x_n203, x_c204, hc205, h⟩ := h
        refine WQ_look (fun w => w.cell? (p14.add 1) = some (.slice x_a202 x_n203 x_c204)) rfl gd0 (fun w hc => (o_load Try.isAgg28 rfl hc)) hc205 rfl ?_
        refine WQ_val rfl gd0 (o_move (v := .int .i64 best48) (by exact e7_47)) rfl ?_
        obtain ⟨p208, q209, h⟩ := h
        obtain ⟨l206, u207, h⟩ := h
        refine WQ_val rfl gd0 (o_indexAddr1 Try.underlying28 Try.sizeOf3 (by exact (congrArg (fun z => Value.slice z x_n203 x_c204) q209)) rfl l206 u207) rfl ?_
        obtain ⟨x210, hc211, h⟩ := h
        refine WQ_look (fun w => w.cell? (p208.add best48.toNat) = some (.int .i64 x210)) rfl gd0 (fun w hc => (o_load Try.isAgg3 rfl hc)) hc211 rfl ?_
        refine WQ_val rfl gd0 (o_move (v := .int .i64 sum50) (by exact e8_49)) rfl ?_
        refine WQ_val rfl gd0 (o_sub rfl rfl) rfl ?_
        obtain ⟨p214, q215, h⟩ := h
        obtain ⟨l212, u213, h⟩ := h
        refine WQ_val rfl gd0 (o_indexAddr1 Try.underlying28 Try.sizeOf3 (by exact (congrArg (fun z => Value.slice z x_n199 x_c200) q215)) rfl l212 u213) rfl ?_
        obtain ⟨c217, h⟩ := h
        refine WQ_do rfl gd0 (o_store (v := .int .i64 (IntKind.i64.wrap (x210 - sum50))) Try.sizeOf3 rfl rfl rfl c217) (by exact ⟨⟨⟨trivial, depT (by kernel_rfl)⟩, depT (by kernel_rfl)⟩, depT (by kernel_rfl)⟩) ?_
        generalize hw216 : World.setCell w53.drew (p214.add best48.toNat) (.int .i64 (IntKind.i64.wrap (x210 - sum50))) = w216 at h ⊢
        try dsimp only at h
        refine WQ_nil ?_
        refine nrm ?_
        refine WC_draws [14] (.look 0 (.look 1 (.look 2 (.look 3 (.look 4 (.look 5 (.look 6 (.look 7 (.look 8 (.look 9 (.look 10 (.look 11 (.look 12 (.look 13 (.act 14 .nil))))))))))))))) Try.mixed (by kernel_rfl) ?_
        refine WQ_val rfl gd0 (o_move (v := .pointer m1) (by exact e0_44)) rfl ?_
        refine WQ_val rfl gd0 (o_nilCheck (by exact (congrArg Value.pointer q15))) rfl ?_
        refine WQ_val rfl gd0 (o_fieldAddr 2 Try.underlying30 rfl Try.sizeOf28 rfl rfl rfl) rfl ?_
        obtain ⟨x_a218, x_n219, x_c220, hc221, h⟩ := h
        refine WQ_look (fun w => w.cell? (p14.add 2) = some (.slice x_a218 x_n219 x_c220)) rfl gd0 (fun w hc => (o_load Try.isAgg28 rfl hc)) hc221 rfl ?_
        refine WQ_val rfl gd0 (o_move (v := .int .i64 best48) (by exact e7_47)) rfl ?_
        refine WQ_val rfl gd0 (o_move (v := .pointer m1) (by exact e0_44)) rfl ?_
        refine WQ_val rfl gd0 (o_nilCheck (by exact (congrArg Value.pointer q15))) rfl ?_
        refine WQ_val rfl gd0 (o_fieldAddr 2 Try.underlying30 rfl Try.sizeOf28 rfl rfl rfl) rfl ?_
        obtain ⟨x_a222, x_n223, x_c224, hc225, h⟩ := h
        refine WQ_look (fun w => w.cell? (p14.add 2) = some (.slice x_a222 x_n223 x_c224)) rfl gd0 (fun w hc => (o_load Try.isAgg28 rfl hc)) hc225 rfl ?_
        refine WQ_val rfl gd0 (o_move (v := .int .i64 best48) (by exact e7_47)) rfl ?_
        obtain ⟨p228, q229, h⟩ := h
        obtain ⟨l226, u227, h⟩ := h
        refine WQ_val rfl gd0 (o_indexAddr1 Try.underlying28 Try.sizeOf3 (by exact (congrArg (fun z => Value.slice z x_n223 x_c224) q229)) rfl l226 u227) rfl ?_
        obtain ⟨x230, hc231, h⟩ := h
        refine WQ_look (fun w => w.cell? (p228.add best48.toNat) = some (.int .i64 x230)) rfl gd0 (fun w hc => (o_load Try.isAgg3 rfl hc)) hc231 rfl ?_
        refine WQ_val rfl gd0 (o_add rfl rfl) rfl ?_
        obtain ⟨p234, q235, h⟩ := h
        obtain ⟨l232, u233, h⟩ := h
        refine WQ_val rfl gd0 (o_indexAddr1 Try.underlying28 Try.sizeOf3 (by exact (congrArg (fun z => Value.slice z x_n219 x_c220) q235)) rfl l232 u233) rfl ?_
        obtain ⟨c237, h⟩ := h
        refine WQ_do rfl gd0 (o_store (v := .int .i64 (IntKind.i64.wrap (x230 + 1))) Try.sizeOf3 rfl rfl rfl c237) (by exact ⟨⟨⟨trivial, depT (by kernel_rfl)⟩, depT (by kernel_rfl)⟩, depT (by kernel_rfl)⟩) ?_
        generalize hw236 : World.setCell w216.drew (p234.add best48.toNat) (.int .i64 (IntKind.i64.wrap (x230 + 1))) = w236 at h ⊢
        try dsimp only at h
        refine WQ_nil ?_
        refine nrm ?_
        refine WC_seq ?_
        refine WC_region ?_
        refine WL_val gd0 ((o_move (v := .int .i64 best48) (by exact e7_47)) _) rfl ?_
        refine WL_val gd0 ((o_assign (v := .int .i64 best48) rfl) _) rfl ?_
        refine WL_nil ?_
        refine nrm ?_
        refine WC_ret ?_
        refine rtE ?_
        exact gv1 rfl rfl h
      · rw [if_neg (of_decide_eq_false hb197)] at h
        refine WC_skip ?_
        refine nrm ?_
        refine WC_seq ?_
        refine WC_region ?_
        refine WL_val gd0 ((o_move (v := .int .i64 best48) (by exact e7_47)) _) rfl ?_
        refine WL_val gd0 ((o_assign (v := .int .i64 best48) rfl) _) rfl ?_
        refine WL_nil ?_
        refine nrm ?_
        refine WC_ret ?_
        refine rtE ?_
        exact gv1 rfl rfl h

def F15_b1 (p12 : Addr) (id10 : Int) (i17 : Int) (w18 : World) (k : Value → World → Prop) (nx18 : Int → World → Prop) : Prop :=
  ∃ (x_a20 : Option Addr) (x_n21 x_c22 : Nat), w18.cell? p12 = some (.slice x_a20 x_n21 x_c22) ∧ if i17 < (x_n21 : Int) then
  ∃ (x_a25 : Option Addr) (x_n26 x_c27 : Nat), w18.cell? p12 = some (.slice x_a25 x_n26 x_c27) ∧ ∃ (p31 : Addr), x_a25 = some p31 ∧ (0 : Int) ≤ i17 ∧ i17 < (x_n26 : Int) ∧ ∃ (x33 : Int), w18.cell? (p31.add (i17.toNat * 3)) = some (.int .i64 x33) ∧ if x33 = id10 then
    ∃ (x_a36 : Option Addr) (x_n37 x_c38 : Nat), w18.cell? (p12.add 2) = some (.slice x_a36 x_n37 x_c38) ∧ ∃ (p42 : Addr), x_a36 = some p42 ∧ (0 : Int) ≤ i17 ∧ i17 < (x_n37 : Int) ∧ ∃ (t44 : Int), w18.cell? (p42.add i17.toNat) = some (.int .i64 t44) ∧ k (.int .i64 t44) w18
  else
    nx18 (IntKind.i64.wrap (i17 + 1)) w18
else
  k (.int .i64 0) w18
/-- spacecraft spacecraftref22.Sent -/
def F15 (m_a1 : Option Addr) (m_n2 : Nat) (m_c3 : Nat) (m_a4 : Option Addr) (m_n5 : Nat) (m_c6 : Nat) (m_a7 : Option Addr) (m_n8 : Nat) (m_c9 : Nat) (id10 : Int) (w11 : World) (k : Value → World → Prop) : Prop :=
  New w11 30 [.slice m_a1 m_n2 m_c3, .slice m_a4 m_n5 m_c6, .slice m_a7 m_n8 m_c9] (fun p12 w13 => LoopP (fun (s : Int) w' nx' => F15_b1 p12 id10 s w' k (fun x0 w => nx' x0 w)) 0 w13)
set_option maxRecDepth 100000 in
set_option maxHeartbeats 2000000 in
theorem w15 (m_a1 : Option Addr) (m_n2 : Nat) (m_c3 : Nat) (m_a4 : Option Addr) (m_n5 : Nat) (m_c6 : Nat) (m_a7 : Option Addr) (m_n8 : Nat) (m_c9 : Nat) (id10 : Int) (w11 : World) (k : Value → World → Prop) (h : F15 m_a1 m_n2 m_c3 m_a4 m_n5 m_c6 m_a7 m_n8 m_c9 id10 w11 k) : Does Try.prog 15 #[.agg #[.slice m_a1 m_n2 m_c3, .slice m_a4 m_n5 m_c6, .slice m_a7 m_n8 m_c9], .int .i64 id10] w11 k := by
  refine enter 26 Try.func15 rfl rfl rfl ?_
  intro ρ hρ
  have e0 := hρ 0 _ rfl
  have e1 := hρ 1 _ rfl
  unfold F15 at h
  refine WC_seq ?_
  refine WC_region ?_
  have h := New.out h
  refine WL_val gd0 (o_box (v := .agg #[.slice m_a1 m_n2 m_c3, .slice m_a4 m_n5 m_c6, .slice m_a7 m_n8 m_c9]) (cs := [.slice m_a1 m_n2 m_c3, .slice m_a4 m_n5 m_c6, .slice m_a7 m_n8 m_c9]) (by exact e0) rfl) rfl ?_
  generalize hp12 : fresh w11 = p12 at h ⊢
  generalize hw13 : push w11 30 [.slice m_a1 m_n2 m_c3, .slice m_a4 m_n5 m_c6, .slice m_a7 m_n8 m_c9] = w13 at h ⊢
  try dsimp only at h
  refine WL_val gd0 ((o_assign (v := .int .i64 0) rfl) _) rfl ?_
  refine WL_nil ?_
  refine nrm ?_
  refine WC_seq ?_
  refine WC_seq ?_
  refine WC_region ?_
  refine WL_val gd0 ((o_assign (v := .int .i64 0) rfl) _) rfl ?_
  refine WL_nil ?_
  refine nrm ?_
  refine WC_block ?_
  obtain ⟨J18, ⟨n18, h0⟩, hr18⟩ := h
  refine WC_loop (fun n ρ w' => ∃ (i17 : Int), ρ 5 = .int .i64 i17 ∧ ρ 1 = .int .i64 id10 ∧ ρ 2 = .pointer (some p12) ∧ J18 n i17 w') ⟨n18, _, rfl, e1, rfl, h0⟩ ?_
  rintro n18 ρ w18 ⟨i17, e5_16, e1_14, e2_15, h⟩
  have h : F15_b1 p12 id10 i17 w18 k (fun x0 w => ∃ m, m < n18 ∧ J18 m x0 w) := hr18 n18 i17 w18 h
  unfold F15_b1 at h
  refine WC_seq ?_
  refine WC_seq ?_
  refine WC_region ?_
  refine WL_val gd0 ((o_move (v := .int .i64 i17) (by exact e5_16)) _) rfl ?_
  refine WL_val gd0 ((o_fieldAddr0 Try.underlying30 rfl Try.sizeOf22 rfl rfl (by exact e2_15)) _) rfl ?_
  obtain ⟨x_a20, x_n21, x_c22, hc23, h⟩ := h
  refine WL_val gd0 (o_load Try.isAgg22 rfl hc23) rfl ?_
  refine WL_val gd0 ((o_len Try.underlying22 rfl) _) rfl ?_
  refine WL_val gd0 ((o_lss rfl rfl) _) rfl ?_
  refine WL_nil ?_
  refine nrm ?_
  refine WC_cond (t := (decide (i17 < (x_n21 : Int)))) rfl (fun hb24 => ?_) (fun hb24 => ?_)
  · rw [if_pos (of_decide_eq_true hb24)] at h
    refine WC_skip ?_
    refine nrm ?_
    refine WC_seq ?_
    refine WC_block ?_
    refine WC_seq ?_
    refine WC_region ?_
    refine WL_val gd0 ((o_fieldAddr0 Try.underlying30 rfl Try.sizeOf22 rfl rfl (by exact e2_15)) _) rfl ?_
    obtain ⟨x_a25, x_n26, x_c27, hc28, h⟩ := h
    refine WL_val gd0 (o_load Try.isAgg22 rfl hc28) rfl ?_
    refine WL_val gd0 ((o_move (v := .int .i64 i17) (by exact e5_16)) _) rfl ?_
    obtain ⟨p31, q32, h⟩ := h
    obtain ⟨l29, u30, h⟩ := h
    refine WL_val gd0 ((o_indexAddr Try.underlying22 Try.sizeOf35 (by exact (congrArg (fun z => Value.slice z x_n26 x_c27) q32)) rfl l29 u30) _) rfl ?_
    refine WL_val gd0 ((o_fieldAddr0 Try.underlying35 rfl Try.sizeOf3 rfl rfl rfl) _) rfl ?_
    obtain ⟨x33, hc34, h⟩ := h
    refine WL_val gd0 (o_load Try.isAgg3 rfl hc34) rfl ?_
    refine WL_val gd0 ((o_move (v := .int .i64 id10) (by exact e1_14)) _) rfl ?_
    refine WL_val gd0 ((o_eql rfl rfl) _) rfl ?_
    refine WL_nil ?_
    refine nrm ?_
    refine WC_cond (t := (decide (x33 = id10))) rfl (fun hb35 => ?_) (fun hb35 => ?_)
    · rw [if_pos (of_decide_eq_true hb35)] at h
      refine WC_seq ?_
      refine WC_region ?_
      refine WL_val gd0 ((o_fieldAddr 2 Try.underlying30 rfl Try.sizeOf28 rfl rfl (by exact e2_15)) _) rfl ?_
      obtain ⟨x_a36, x_n37, x_c38, hc39, h⟩ := h
      refine WL_val gd0 (o_load Try.isAgg28 rfl hc39) rfl ?_
      refine WL_val gd0 ((o_move (v := .int .i64 i17) (by exact e5_16)) _) rfl ?_
      obtain ⟨p42, q43, h⟩ := h
      obtain ⟨l40, u41, h⟩ := h
      refine WL_val gd0 ((o_indexAddr1 Try.underlying28 Try.sizeOf3 (by exact (congrArg (fun z => Value.slice z x_n37 x_c38) q43)) rfl l40 u41) _) rfl ?_
      obtain ⟨t44, hc45, h⟩ := h
      refine WL_val gd0 (o_load Try.isAgg3 rfl hc45) rfl ?_
      refine WL_val gd0 ((o_assign (v := .int .i64 t44) rfl) _) rfl ?_
      refine WL_nil ?_
      refine nrm ?_
      refine WC_ret ?_
      refine rtB ?_
      refine rtT ?_
      refine rtT ?_
      refine rtB ?_
      refine rtT ?_
      refine rtE ?_
      exact gv1 rfl rfl h
    · rw [if_neg (of_decide_eq_false hb35)] at h
      refine WC_skip ?_
      refine nrmB ?_
      refine nrm ?_
      refine WC_region ?_
      refine WL_val gd0 ((o_move (v := .int .i64 i17) (by exact e5_16)) _) rfl ?_
      refine WL_val gd0 ((o_add rfl rfl) _) rfl ?_
      refine WL_val gd0 ((o_assign (v := .int .i64 (IntKind.i64.wrap (i17 + 1))) rfl) _) rfl ?_
      refine WL_nil ?_
      refine nrm ?_
      obtain ⟨m19, hm19, h⟩ := h
      exact ⟨m19, hm19, _, rfl, e1_14, e2_15, h⟩
  · rw [if_neg (of_decide_eq_false hb24)] at h
    refine WC_exit ?_
    refine exT ?_
    refine exT ?_
    refine exB ?_
    refine nrm ?_
    refine WC_seq ?_
    refine WC_region ?_
    refine WL_val gd0 ((o_assign (v := .int .i64 0) rfl) _) rfl ?_
    refine WL_nil ?_
    refine nrm ?_
    refine WC_ret ?_
    refine rtE ?_
    exact gv1 rfl rfl h

/-- (*spacecraft mux.Mux).find -/
def F16 (m1 : Option Addr) (id2 : Int) (w3 : World) (k : Value → World → Prop) : Prop :=
  New w3 3 [.int .i64 id2] (fun p4 w5 => if (m1).isNone = true then
  k (.int .i64 (-1)) w5
else
  ∃ (p7 : Addr), m1 = some p7 ∧ ∃ (x_a9 : Option Addr) (x_n10 x_c11 : Nat), w5.cell? p7 = some (.slice x_a9 x_n10 x_c11) ∧ Does Try.prog 26 #[.slice x_a9 x_n10 x_c11, .func (.func 27) #[] #[.pointer (some p4)]] w5 (fun v w13 => ∃ (t14 : Int), v = .int .i64 t14 ∧ k (.int .i64 t14) w13))
set_option maxRecDepth 100000 in
set_option maxHeartbeats 2000000 in
theorem w16 (m1 : Option Addr) (id2 : Int) (w3 : World) (k : Value → World → Prop) (h : F16 m1 id2 w3 k) : Does Try.prog 16 #[.pointer m1, .int .i64 id2] w3 k := by
  refine enter 13 Try.func16 rfl rfl rfl ?_
  intro ρ hρ
  have e0 := hρ 0 _ rfl
  have e1 := hρ 1 _ rfl
  unfold F16 at h
  refine WC_seq ?_
  refine WC_region ?_
  have h := New.out h
  refine WL_val gd0 (o_box (v := .int .i64 id2) (cs := [.int .i64 id2]) (by exact e1) rfl) rfl ?_
  generalize hp4 : fresh w3 = p4 at h ⊢
  generalize hw5 : push w3 3 [.int .i64 id2] = w5 at h ⊢
  try dsimp only at h
  refine WL_val gd0 ((o_assign (v := .int .i64 0) rfl) _) rfl ?_
  refine WL_nil ?_
  refine nrm ?_
  refine WC_seq ?_
  refine WC_seq ?_
  refine WC_region ?_
  refine WL_val gd0 ((o_move (v := .pointer m1) (by exact e0)) _) rfl ?_
  refine WL_val gd0 ((o_eqlPtrNil Try.underlying24 rfl rfl) _) rfl ?_
  refine WL_nil ?_
  refine nrm ?_
  refine WC_cond (t := ((m1).isNone)) rfl (fun hb6 => ?_) (fun hb6 => ?_)
  · rw [if_pos hb6] at h
    refine WC_seq ?_
    refine WC_region ?_
    refine WL_val gd0 ((o_assign (v := .int .i64 (-1)) rfl) _) rfl ?_
    refine WL_nil ?_
    refine nrm ?_
    refine WC_ret ?_
    refine rtT ?_
    refine rtE ?_
    exact gv1 rfl rfl h
  · rw [if_neg (neT hb6)] at h
    refine WC_skip ?_
    refine nrm ?_
    refine WC_seq ?_
    refine WC_region ?_
    refine WL_val gd0 ((o_move (v := .pointer m1) (by exact e0)) _) rfl ?_
    obtain ⟨p7, q8, h⟩ := h
    refine WL_val gd0 ((o_nilCheck (by exact (congrArg Value.pointer q8))) _) rfl ?_
    refine WL_val gd0 ((o_fieldAddr0 Try.underlying50 rfl Try.sizeOf48 rfl rfl rfl) _) rfl ?_
    obtain ⟨x_a9, x_n10, x_c11, hc12, h⟩ := h
    refine WL_val gd0 (o_load Try.isAgg48 rfl hc12) rfl ?_
    refine WL_val gd0 ((o_makeFunc (vs := []) (us := [.pointer (some p4)]) argNil (argCons rfl argNil)) _) rfl ?_
    refine WL_call gd0 (o_call Try.call26 (argCons rfl (argCons rfl argNil)) _) rfl (h.mono ?_)
    rintro _ w13 ⟨t14, rfl, h⟩
    refine WL_val gd0 ((o_assign (v := .int .i64 t14) rfl) _) rfl ?_
    refine WL_nil ?_
    refine nrm ?_
    refine WC_ret ?_
    refine rtE ?_
    exact gv1 rfl rfl h

/-- slices.Contains   int,int  -/
def F17 (s_a1 : Option Addr) (s_n2 : Nat) (s_c3 : Nat) (v4 : Int) (w5 : World) (k : Value → World → Prop) : Prop :=
  Does Try.prog 28 #[.slice s_a1 s_n2 s_c3, .int .i64 v4] w5 (fun v w6 => ∃ (x7 : Int), v = .int .i64 x7 ∧ k (.bool (decide (0 ≤ x7))) w6)
set_option maxRecDepth 100000 in
set_option maxHeartbeats 2000000 in
theorem w17 (s_a1 : Option Addr) (s_n2 : Nat) (s_c3 : Nat) (v4 : Int) (w5 : World) (k : Value → World → Prop) (h : F17 s_a1 s_n2 s_c3 v4 w5 k) : Does Try.prog 17 #[.slice s_a1 s_n2 s_c3, .int .i64 v4] w5 k := by
  refine enter 9 Try.func17 rfl rfl rfl ?_
  intro ρ hρ
  have e0 := hρ 0 _ rfl
  have e1 := hρ 1 _ rfl
  unfold F17 at h
  refine WC_seq ?_
  refine WC_region ?_
  refine WL_val gd0 ((o_assign (v := .bool false) rfl) _) rfl ?_
  refine WL_nil ?_
  refine nrm ?_
  refine WC_seq ?_
  refine WC_region ?_
  refine WL_val gd0 ((o_move (v := .slice s_a1 s_n2 s_c3) (by exact e0)) _) rfl ?_
  refine WL_val gd0 ((o_move (v := .int .i64 v4) (by exact e1)) _) rfl ?_
  refine WL_call gd0 (o_call Try.call28 (argCons rfl (argCons rfl argNil)) _) rfl (h.mono ?_)
  rintro _ w6 ⟨x7, rfl, h⟩
  refine WL_val gd0 ((o_geq rfl rfl) _) rfl ?_
  refine WL_val gd0 ((o_assign (v := .bool (decide (0 ≤ x7))) rfl) _) rfl ?_
  refine WL_nil ?_
  refine nrm ?_
  refine WC_ret ?_
  refine rtE ?_
  exact gv1 rfl rfl h

def F18c19_b2 (x_n2 : Nat) (p11 : Addr) (q4 : Option Addr) (m18 : Int) (i20 : Int) (w21 : World) (nx21 : Int → Int → World → Prop) (k : Value → World → Prop) : Prop :=
  if i20 < (x_n2 : Int) then
  (0 : Int) ≤ i20 ∧ i20 < (x_n2 : Int) ∧ ∃ (x26 : Int), w21.cell? (p11.add i20.toNat) = some (.int .i64 x26) ∧ Does Try.prog 19 #[.int .i64 x26, .int .i64 m18, .pointer q4] w21 (fun v w28 => ∃ (x29 : Int), v = .int .i64 x29 ∧ if x29 < 0 then
    (0 : Int) ≤ i20 ∧ i20 < (x_n2 : Int) ∧ ∃ (m33 : Int), w28.cell? (p11.add i20.toNat) = some (.int .i64 m33) ∧ nx21 m33 (IntKind.i64.wrap (i20 + 1)) w28
  else
    nx21 m18 (IntKind.i64.wrap (i20 + 1)) w28)
else
  k (.int .i64 m18) w21
def F18c19_j1 (x_a1 : Option Addr) (x_n2 : Nat) (q4 : Option Addr) (w8 : World) (k : Value → World → Prop) : Prop :=
  ∃ (p11 : Addr), x_a1 = some p11 ∧ (0 : Int) ≤ 0 ∧ 0 < (x_n2 : Int) ∧ ∃ (m13 : Int), w8.cell? (p11.add ((0 : Int).toNat)) = some (.int .i64 m13) ∧ LoopP (fun (s : Int × Int) w' nx' => F18c19_b2 x_n2 p11 q4 (s.1) (s.2) w' (fun x0 x1 w => nx' (x0, x1) w) k) (m13, 1) w8
/-- slices.MinFunc   int,int  -/
def F18c19 (x_a1 : Option Addr) (x_n2 : Nat) (x_c3 : Nat) (q4 : Option Addr) (w5 : World) (k : Value → World → Prop) : Prop :=
  if (x_n2 : Int) < 1 then
  False
else
  F18c19_j1 x_a1 x_n2 q4 w5 k
set_option maxRecDepth 100000 in
set_option maxHeartbeats 2000000 in
theorem w18c19 (x_a1 : Option Addr) (x_n2 : Nat) (x_c3 : Nat) (q4 : Option Addr) (w5 : World) (k : Value → World → Prop) (h : F18c19 x_a1 x_n2 x_c3 q4 w5 k) : Does Try.prog 18 #[.slice x_a1 x_n2 x_c3, .func (.func 19) #[] #[.pointer q4]] w5 k := by
  refine enter 33 Try.func18 rfl rfl rfl ?_
  intro ρ hρ
  have e0 := hρ 0 _ rfl
  have e1 := hρ 1 _ rfl
  unfold F18c19 at h
  refine WC_seq ?_
  refine WC_region ?_
  refine WL_val gd0 ((o_assign (v := .int .i64 0) rfl) _) rfl ?_
  refine WL_nil ?_
  refine nrm ?_
  refine WC_cut (fun ρ w' => ρ 0 = .slice x_a1 x_n2 x_c3 ∧ ρ 1 = .func (.func 19) #[] #[.pointer q4] ∧ F18c19_j1 x_a1 x_n2 q4 w' k) ?_ ?_
  · refine WC_seq ?_
    refine WC_region ?_
    refine WL_val gd0 ((o_move (v := .slice x_a1 x_n2 x_c3) (by exact e0)) _) rfl ?_
    refine WL_val gd0 ((o_len Try.underlying28 rfl) _) rfl ?_
    refine WL_val gd0 ((o_lss rfl rfl) _) rfl ?_
    refine WL_nil ?_
    refine nrm ?_
    refine WC_cond (t := (decide ((x_n2 : Int) < 1))) rfl (fun hb35 => ?_) (fun hb35 => ?_)
    · rw [if_pos (of_decide_eq_true hb35)] at h
      refine WC_region ?_
      refine WL_val gd0 ((o_makeInterface (v := .string (ByteArray.mk #[115, 108, 105, 99, 101, 115, 46, 77, 105, 110, 70, 117, 110, 99, 58, 32, 101, 109, 112, 116, 121, 32, 108, 105, 115, 116])) rfl (fun w => by kernel_rfl)) _) rfl ?_
      exact h.elim
    · rw [if_neg (of_decide_eq_false hb35)] at h
      refine WC_skip ?_
      refine nrm ?_
      exact ⟨e0, e1, h⟩
  · rintro ρ w8 ⟨e0_6, e1_7, h⟩
    unfold F18c19_j1 at h
    refine WC_seq ?_
    refine WC_region ?_
    refine WL_val gd0 ((o_move (v := .slice x_a1 x_n2 x_c3) (by exact e0_6)) _) rfl ?_
    obtain ⟨p11, q12, h⟩ := h
    obtain ⟨l9, u10, h⟩ := h
    refine WL_val gd0 ((o_indexAddr1 Try.underlying28 Try.sizeOf3 (by exact (congrArg (fun z => Value.slice z x_n2 x_c3) q12)) rfl l9 u10) _) rfl ?_
    obtain ⟨m13, hc14, h⟩ := h
    refine WL_val gd0 (o_load Try.isAgg3 rfl hc14) rfl ?_
    refine WL_val gd0 ((o_assign (v := .int .i64 m13) rfl) _) rfl ?_
    refine WL_nil ?_
    refine nrm ?_
    refine WC_seq ?_
    refine WC_seq ?_
    refine WC_region ?_
    refine WL_val gd0 ((o_assign (v := .int .i64 1) rfl) _) rfl ?_
    refine WL_nil ?_
    refine nrm ?_
    refine WC_block ?_
    obtain ⟨J21, ⟨n21, h0⟩, hr21⟩ := h
    refine WC_loop (fun n ρ w' => ∃ (m18 i20 : Int), ρ 5 = .int .i64 m18 ∧ ρ 6 = .int .i64 i20 ∧ ρ 0 = .slice x_a1 x_n2 x_c3 ∧ ρ 1 = .func (.func 19) #[] #[.pointer q4] ∧ J21 n (m18, i20) w') ⟨n21, _, _, rfl, rfl, e0_6, e1_7, h0⟩ ?_
    rintro n21 ρ w21 ⟨m18, i20, e5_17, e6_19, e0_15, e1_16, h⟩
    have h : F18c19_b2 x_n2 p11 q4 m18 i20 w21 (fun x0 x1 w => ∃ m, m < n21 ∧ J21 m (x0, x1) w) k := hr21 n21 (m18, i20) w21 h
    unfold F18c19_b2 at h
    refine WC_seq ?_
    refine WC_seq ?_
    refine WC_region ?_
    refine WL_val gd0 ((o_move (v := .int .i64 i20) (by exact e6_19)) _) rfl ?_
    refine WL_val gd0 ((o_move (v := .slice x_a1 x_n2 x_c3) (by exact e0_15)) _) rfl ?_
    refine WL_val gd0 ((o_len Try.underlying28 rfl) _) rfl ?_
    refine WL_val gd0 ((o_lss rfl rfl) _) rfl ?_
    refine WL_nil ?_
    refine nrm ?_
    refine WC_cond (t := (decide (i20 < (x_n2 : Int)))) rfl (fun hb23 => ?_) (fun hb23 => ?_)
    · rw [if_pos (of_decide_eq_true hb23)] at h
      refine WC_skip ?_
      refine nrm ?_
      refine WC_seq ?_
      refine WC_block ?_
      refine WC_seq ?_
      refine WC_region ?_
      refine WL_val gd0 ((o_move (v := .func (.func 19) #[] #[.pointer q4]) (by exact e1_16)) _) rfl ?_
      refine WL_val gd0 ((o_move (v := .slice x_a1 x_n2 x_c3) (by exact e0_15)) _) rfl ?_
      refine WL_val gd0 ((o_move (v := .int .i64 i20) (by exact e6_19)) _) rfl ?_
      obtain ⟨l24, u25, h⟩ := h
      refine WL_val gd0 ((o_indexAddr1 Try.underlying28 Try.sizeOf3 (by exact (congrArg (fun z => Value.slice z x_n2 x_c3) q12)) rfl l24 u25) _) rfl ?_
      obtain ⟨x26, hc27, h⟩ := h
      refine WL_val gd0 (o_load Try.isAgg3 rfl hc27) rfl ?_
      refine WL_val gd0 ((o_move (v := .int .i64 m18) (by exact e5_17)) _) rfl ?_
      refine WL_call gd0 (o_callVal (bs := []) (cs := [.pointer q4]) Try.call19 rfl (argCons rfl (argCons rfl argNil)) _) rfl (h.mono ?_)
      rintro _ w28 ⟨x29, rfl, h⟩
      refine WL_val gd0 ((o_lss rfl rfl) _) rfl ?_
      refine WL_nil ?_
      refine nrm ?_
      refine WC_cond (t := (decide (x29 < 0))) rfl (fun hb30 => ?_) (fun hb30 => ?_)
      · rw [if_pos (of_decide_eq_true hb30)] at h
        refine WC_region ?_
        refine WL_val gd0 ((o_move (v := .slice x_a1 x_n2 x_c3) (by exact e0_15)) _) rfl ?_
        refine WL_val gd0 ((o_move (v := .int .i64 i20) (by exact e6_19)) _) rfl ?_
        obtain ⟨l31, u32, h⟩ := h
        refine WL_val gd0 ((o_indexAddr1 Try.underlying28 Try.sizeOf3 (by exact (congrArg (fun z => Value.slice z x_n2 x_c3) q12)) rfl l31 u32) _) rfl ?_
        obtain ⟨m33, hc34, h⟩ := h
        refine WL_val gd0 (o_load Try.isAgg3 rfl hc34) rfl ?_
        refine WL_val gd0 ((o_assign (v := .int .i64 m33) rfl) _) rfl ?_
        refine WL_nil ?_
        refine nrmB ?_
        refine nrm ?_
        refine WC_region ?_
        refine WL_val gd0 ((o_move (v := .int .i64 i20) (by exact e6_19)) _) rfl ?_
        refine WL_val gd0 ((o_add rfl rfl) _) rfl ?_
        refine WL_val gd0 ((o_assign (v := .int .i64 (IntKind.i64.wrap (i20 + 1))) rfl) _) rfl ?_
        refine WL_nil ?_
        refine nrm ?_
        obtain ⟨m22, hm22, h⟩ := h
        exact ⟨m22, hm22, _, _, rfl, rfl, e0_15, e1_16, h⟩
      · rw [if_neg (of_decide_eq_false hb30)] at h
        refine WC_skip ?_
        refine nrmB ?_
        refine nrm ?_
        refine WC_region ?_
        refine WL_val gd0 ((o_move (v := .int .i64 i20) (by exact e6_19)) _) rfl ?_
        refine WL_val gd0 ((o_add rfl rfl) _) rfl ?_
        refine WL_val gd0 ((o_assign (v := .int .i64 (IntKind.i64.wrap (i20 + 1))) rfl) _) rfl ?_
        refine WL_nil ?_
        refine nrm ?_
        obtain ⟨m22, hm22, h⟩ := h
        exact ⟨m22, hm22, _, _, e5_17, rfl, e0_15, e1_16, h⟩
    · rw [if_neg (of_decide_eq_false hb23)] at h
      refine WC_exit ?_
      refine exT ?_
      refine exT ?_
      refine exB ?_
      refine nrm ?_
      refine WC_seq ?_
      refine WC_region ?_
      refine WL_val gd0 ((o_move (v := .int .i64 m18) (by exact e5_17)) _) rfl ?_
      refine WL_val gd0 ((o_assign (v := .int .i64 m18) rfl) _) rfl ?_
      refine WL_nil ?_
      refine nrm ?_
      refine WC_ret ?_
      refine rtE ?_
      exact gv1 rfl rfl h

def F18c23_b2 (x_n2 : Nat) (p11 : Addr) (q4 : Option Addr) (m18 : Int) (i20 : Int) (w21 : World) (nx21 : Int → Int → World → Prop) (k : Value → World → Prop) : Prop :=
  if i20 < (x_n2 : Int) then
  (0 : Int) ≤ i20 ∧ i20 < (x_n2 : Int) ∧ ∃ (x26 : Int), w21.cell? (p11.add i20.toNat) = some (.int .i64 x26) ∧ Does Try.prog 23 #[.int .i64 x26, .int .i64 m18, .pointer q4] w21 (fun v w28 => ∃ (x29 : Int), v = .int .i64 x29 ∧ if x29 < 0 then
    (0 : Int) ≤ i20 ∧ i20 < (x_n2 : Int) ∧ ∃ (m33 : Int), w28.cell? (p11.add i20.toNat) = some (.int .i64 m33) ∧ nx21 m33 (IntKind.i64.wrap (i20 + 1)) w28
  else
    nx21 m18 (IntKind.i64.wrap (i20 + 1)) w28)
else
  k (.int .i64 m18) w21
def F18c23_j1 (x_a1 : Option Addr) (x_n2 : Nat) (q4 : Option Addr) (w8 : World) (k : Value → World → Prop) : Prop :=
  ∃ (p11 : Addr), x_a1 = some p11 ∧ (0 : Int) ≤ 0 ∧ 0 < (x_n2 : Int) ∧ ∃ (m13 : Int), w8.cell? (p11.add ((0 : Int).toNat)) = some (.int .i64 m13) ∧ LoopP (fun (s : Int × Int) w' nx' => F18c23_b2 x_n2 p11 q4 (s.1) (s.2) w' (fun x0 x1 w => nx' (x0, x1) w) k) (m13, 1) w8
/-- slices.MinFunc   int,int  -/
def F18c23 (x_a1 : Option Addr) (x_n2 : Nat) (x_c3 : Nat) (q4 : Option Addr) (w5 : World) (k : Value → World → Prop) : Prop :=
  if (x_n2 : Int) < 1 then
  False
else
  F18c23_j1 x_a1 x_n2 q4 w5 k
set_option maxRecDepth 100000 in
set_option maxHeartbeats 2000000 in
theorem w18c23 (x_a1 : Option Addr) (x_n2 : Nat) (x_c3 : Nat) (q4 : Option Addr) (w5 : World) (k : Value → World → Prop) (h : F18c23 x_a1 x_n2 x_c3 q4 w5 k) : Does Try.prog 18 #[.slice x_a1 x_n2 x_c3, .func (.func 23) #[] #[.pointer q4]] w5 k := by
  refine enter 33 Try.func18 rfl rfl rfl ?_
  intro ρ hρ
  have e0 := hρ 0 _ rfl
  have e1 := hρ 1 _ rfl
  unfold F18c23 at h
  refine WC_seq ?_
  refine WC_region ?_
  refine WL_val gd0 ((o_assign (v := .int .i64 0) rfl) _) rfl ?_
  refine WL_nil ?_
  refine nrm ?_
  refine WC_cut (fun ρ w' => ρ 0 = .slice x_a1 x_n2 x_c3 ∧ ρ 1 = .func (.func 23) #[] #[.pointer q4] ∧ F18c23_j1 x_a1 x_n2 q4 w' k) ?_ ?_
  · refine WC_seq ?_
    refine WC_region ?_
    refine WL_val gd0 ((o_move (v := .slice x_a1 x_n2 x_c3) (by exact e0)) _) rfl ?_
    refine WL_val gd0 ((o_len Try.underlying28 rfl) _) rfl ?_
    refine WL_val gd0 ((o_lss rfl rfl) _) rfl ?_
    refine WL_nil ?_
    refine nrm ?_
    refine WC_cond (t := (decide ((x_n2 : Int) < 1))) rfl (fun hb35 => ?_) (fun hb35 => ?_)
    · rw [if_pos (of_decide_eq_true hb35)] at h
      refine WC_region ?_
      refine WL_val gd0 ((o_makeInterface (v := .string (ByteArray.mk #[115, 108, 105, 99, 101, 115, 46, 77, 105, 110, 70, 117, 110, 99, 58, 32, 101, 109, 112, 116, 121, 32, 108, 105, 115, 116])) rfl (fun w => by kernel_rfl)) _) rfl ?_
      exact h.elim
    · rw [if_neg (of_decide_eq_false hb35)] at h
      refine WC_skip ?_
      refine nrm ?_
      exact ⟨e0, e1, h⟩
  · rintro ρ w8 ⟨e0_6, e1_7, h⟩
    unfold F18c23_j1 at h
    refine WC_seq ?_
    refine WC_region ?_
    refine WL_val gd0 ((o_move (v := .slice x_a1 x_n2 x_c3) (by exact e0_6)) _) rfl ?_
    obtain ⟨p11, q12, h⟩ := h
    obtain ⟨l9, u10, h⟩ := h
    refine WL_val gd0 ((o_indexAddr1 Try.underlying28 Try.sizeOf3 (by exact (congrArg (fun z => Value.slice z x_n2 x_c3) q12)) rfl l9 u10) _) rfl ?_
    obtain ⟨m13, hc14, h⟩ := h
    refine WL_val gd0 (o_load Try.isAgg3 rfl hc14) rfl ?_
    refine WL_val gd0 ((o_assign (v := .int .i64 m13) rfl) _) rfl ?_
    refine WL_nil ?_
    refine nrm ?_
    refine WC_seq ?_
    refine WC_seq ?_
    refine WC_region ?_
    refine WL_val gd0 ((o_assign (v := .int .i64 1) rfl) _) rfl ?_
    refine WL_nil ?_
    refine nrm ?_
    refine WC_block ?_
    obtain ⟨J21, ⟨n21, h0⟩, hr21⟩ := h
    refine WC_loop (fun n ρ w' => ∃ (m18 i20 : Int), ρ 5 = .int .i64 m18 ∧ ρ 6 = .int .i64 i20 ∧ ρ 0 = .slice x_a1 x_n2 x_c3 ∧ ρ 1 = .func (.func 23) #[] #[.pointer q4] ∧ J21 n (m18, i20) w') ⟨n21, _, _, rfl, rfl, e0_6, e1_7, h0⟩ ?_
    rintro n21 ρ w21 ⟨m18, i20, e5_17, e6_19, e0_15, e1_16, h⟩
    have h : F18c23_b2 x_n2 p11 q4 m18 i20 w21 (fun x0 x1 w => ∃ m, m < n21 ∧ J21 m (x0, x1) w) k := hr21 n21 (m18, i20) w21 h
    unfold F18c23_b2 at h
    refine WC_seq ?_
    refine WC_seq ?_
    refine WC_region ?_
    refine WL_val gd0 ((o_move (v := .int .i64 i20) (by exact e6_19)) _) rfl ?_
    refine WL_val gd0 ((o_move (v := .slice x_a1 x_n2 x_c3) (by exact e0_15)) _) rfl ?_
    refine WL_val gd0 ((o_len Try.underlying28 rfl) _) rfl ?_
    refine WL_val gd0 ((o_lss rfl rfl) _) rfl ?_
    refine WL_nil ?_
    refine nrm ?_
    refine WC_cond (t := (decide (i20 < (x_n2 : Int)))) rfl (fun hb23 => ?_) (fun hb23 => ?_)
    · rw [if_pos (of_decide_eq_true hb23)] at h
      refine WC_skip ?_
      refine nrm ?_
      refine WC_seq ?_
      refine WC_block ?_
      refine WC_seq ?_
      refine WC_region ?_
      refine WL_val gd0 ((o_move (v := .func (.func 23) #[] #[.pointer q4]) (by exact e1_16)) _) rfl ?_
      refine WL_val gd0 ((o_move (v := .slice x_a1 x_n2 x_c3) (by exact e0_15)) _) rfl ?_
      refine WL_val gd0 ((o_move (v := .int .i64 i20) (by exact e6_19)) _) rfl ?_
      obtain ⟨l24, u25, h⟩ := h
      refine WL_val gd0 ((o_indexAddr1 Try.underlying28 Try.sizeOf3 (by exact (congrArg (fun z => Value.slice z x_n2 x_c3) q12)) rfl l24 u25) _) rfl ?_
      obtain ⟨x26, hc27, h⟩ := h
      refine WL_val gd0 (o_load Try.isAgg3 rfl hc27) rfl ?_
      refine WL_val gd0 ((o_move (v := .int .i64 m18) (by exact e5_17)) _) rfl ?_
      refine WL_call gd0 (o_callVal (bs := []) (cs := [.pointer q4]) Try.call23 rfl (argCons rfl (argCons rfl argNil)) _) rfl (h.mono ?_)
      rintro _ w28 ⟨x29, rfl, h⟩
      refine WL_val gd0 ((o_lss rfl rfl) _) rfl ?_
      refine WL_nil ?_
      refine nrm ?_
      refine WC_cond (t := (decide (x29 < 0))) rfl (fun hb30 => ?_) (fun hb30 => ?_)
      · rw [if_pos (of_decide_eq_true hb30)] at h
        refine WC_region ?_
        refine WL_val gd0 ((o_move (v := .slice x_a1 x_n2 x_c3) (by exact e0_15)) _) rfl ?_
        refine WL_val gd0 ((o_move (v := .int .i64 i20) (by exact e6_19)) _) rfl ?_
        obtain ⟨l31, u32, h⟩ := h
        refine WL_val gd0 ((o_indexAddr1 Try.underlying28 Try.sizeOf3 (by exact (congrArg (fun z => Value.slice z x_n2 x_c3) q12)) rfl l31 u32) _) rfl ?_
        obtain ⟨m33, hc34, h⟩ := h
        refine WL_val gd0 (o_load Try.isAgg3 rfl hc34) rfl ?_
        refine WL_val gd0 ((o_assign (v := .int .i64 m33) rfl) _) rfl ?_
        refine WL_nil ?_
        refine nrmB ?_
        refine nrm ?_
        refine WC_region ?_
        refine WL_val gd0 ((o_move (v := .int .i64 i20) (by exact e6_19)) _) rfl ?_
        refine WL_val gd0 ((o_add rfl rfl) _) rfl ?_
        refine WL_val gd0 ((o_assign (v := .int .i64 (IntKind.i64.wrap (i20 + 1))) rfl) _) rfl ?_
        refine WL_nil ?_
        refine nrm ?_
        obtain ⟨m22, hm22, h⟩ := h
        exact ⟨m22, hm22, _, _, rfl, rfl, e0_15, e1_16, h⟩
      · rw [if_neg (of_decide_eq_false hb30)] at h
        refine WC_skip ?_
        refine nrmB ?_
        refine nrm ?_
        refine WC_region ?_
        refine WL_val gd0 ((o_move (v := .int .i64 i20) (by exact e6_19)) _) rfl ?_
        refine WL_val gd0 ((o_add rfl rfl) _) rfl ?_
        refine WL_val gd0 ((o_assign (v := .int .i64 (IntKind.i64.wrap (i20 + 1))) rfl) _) rfl ?_
        refine WL_nil ?_
        refine nrm ?_
        obtain ⟨m22, hm22, h⟩ := h
        exact ⟨m22, hm22, _, _, e5_17, rfl, e0_15, e1_16, h⟩
    · rw [if_neg (of_decide_eq_false hb23)] at h
      refine WC_exit ?_
      refine exT ?_
      refine exT ?_
      refine exB ?_
      refine nrm ?_
      refine WC_seq ?_
      refine WC_region ?_
      refine WL_val gd0 ((o_move (v := .int .i64 m18) (by exact e5_17)) _) rfl ?_
      refine WL_val gd0 ((o_assign (v := .int .i64 m18) rfl) _) rfl ?_
      refine WL_nil ?_
      refine nrm ?_
      refine WC_ret ?_
      refine rtE ?_
      exact gv1 rfl rfl h

/-- (*spacecraft mux.Mux).Next 1 -/
def F19 (i1 : Int) (k2 : Int) (t3 : Option Addr) (w4 : World) (k : Value → World → Prop) : Prop :=
  ∃ (p5 : Addr), t3 = some p5 ∧ ∃ (x7 : Option Addr), w4.drew.cell? p5 = some (.pointer x7) ∧ ∃ (p9 : Addr), x7 = some p9 ∧ ∃ (x_a11 : Option Addr) (x_n12 x_c13 : Nat), w4.drew.cell? p9 = some (.slice x_a11 x_n12 x_c13) ∧ ∃ (p17 : Addr), x_a11 = some p17 ∧ (0 : Int) ≤ i1 ∧ i1 < (x_n12 : Int) ∧ ∃ (x19 : Int), w4.drew.cell? ((p17.add (i1.toNat * 5)).add 1) = some (.int .i64 x19) ∧ ∃ (x21 : Option Addr), w4.drew.cell? p5 = some (.pointer x21) ∧ ∃ (p23 : Addr), x21 = some p23 ∧ ∃ (x_a25 : Option Addr) (x_n26 x_c27 : Nat), w4.drew.cell? p23 = some (.slice x_a25 x_n26 x_c27) ∧ ∃ (p31 : Addr), x_a25 = some p31 ∧ (0 : Int) ≤ k2 ∧ k2 < (x_n26 : Int) ∧ ∃ (x33 : Int), w4.drew.cell? ((p31.add (k2.toNat * 5)).add 1) = some (.int .i64 x33) ∧ Does Try.prog 20 #[.int .i64 x19, .int .i64 x33] w4.drew (fun v w35 => ∃ (t36 : Int), v = .int .i64 t36 ∧ k (.int .i64 t36) w35)
set_option maxRecDepth 100000 in
set_option maxHeartbeats 2000000 in
theorem w19 (i1 : Int) (k2 : Int) (t3 : Option Addr) (w4 : World) (k : Value → World → Prop) (h : F19 i1 k2 t3 w4 k) : Does Try.prog 19 #[.int .i64 i1, .int .i64 k2, .pointer t3] w4 k := by
  refine enter 25 Try.func19 rfl rfl rfl ?_
  intro ρ hρ
  have e0 := hρ 0 _ rfl
  have e1 := hρ 1 _ rfl
  have e2 := hρ 2 _ rfl
  unfold F19 at h
  refine WC_seq ?_
  refine WC_region ?_
  refine WL_val gd0 ((o_assign (v := .int .i64 0) rfl) _) rfl ?_
  refine WL_nil ?_
  refine nrm ?_
  refine WC_seq ?_
  refine WC_draws [18] (.look 0 (.look 1 (.look 2 (.look 3 (.look 4 (.look 5 (.look 6 (.look 7 (.look 8 (.look 9 (.look 10 (.look 11 (.look 12 (.look 13 (.look 14 (.look 15 (.look 16 (.look 17 (.act 18 (.look 19 .nil)))))))))))))))))))) Try.mixed (by kernel_rfl) ?_
  obtain ⟨p5, q6, h⟩ := h
  obtain ⟨x7, hc8, h⟩ := h
  refine WQ_look (fun w => w.cell? p5 = some (.pointer x7)) rfl gd0 (fun w hc => (o_load Try.isAgg24 (by exact (Eq.trans e2 (congrArg Value.pointer q6))) hc)) hc8 rfl ?_
  obtain ⟨p9, q10, h⟩ := h
  refine WQ_val rfl gd0 (o_nilCheck (by exact (congrArg Value.pointer q10))) rfl ?_
  refine WQ_val rfl gd0 (o_fieldAddr0 Try.underlying50 rfl Try.sizeOf48 rfl rfl rfl) rfl ?_
  obtain ⟨x_a11, x_n12, x_c13, hc14, h⟩ := h
  refine WQ_look (fun w => w.cell? p9 = some (.slice x_a11 x_n12 x_c13)) rfl gd0 (fun w hc => (o_load Try.isAgg48 rfl hc)) hc14 rfl ?_
  refine WQ_val rfl gd0 (o_move (v := .int .i64 i1) (by exact e0)) rfl ?_
  obtain ⟨p17, q18, h⟩ := h
  obtain ⟨l15, u16, h⟩ := h
  refine WQ_val rfl gd0 (o_indexAddr Try.underlying48 Try.sizeOf52 (by exact (congrArg (fun z => Value.slice z x_n12 x_c13) q18)) rfl l15 u16) rfl ?_
  refine WQ_val rfl gd0 (o_fieldAddr0 Try.underlying52 rfl Try.sizeOf35 rfl rfl rfl) rfl ?_
  refine WQ_val rfl gd0 (o_fieldAddr 1 Try.underlying35 rfl Try.sizeOf3 rfl rfl rfl) rfl ?_
  obtain ⟨x19, hc20, h⟩ := h
  refine WQ_look (fun w => w.cell? ((p17.add (i1.toNat * 5)).add 1) = some (.int .i64 x19)) rfl gd0 (fun w hc => (o_load Try.isAgg3 rfl hc)) hc20 rfl ?_
  obtain ⟨x21, hc22, h⟩ := h
  refine WQ_look (fun w => w.cell? p5 = some (.pointer x21)) rfl gd0 (fun w hc => (o_load Try.isAgg24 (by exact (Eq.trans e2 (congrArg Value.pointer q6))) hc)) hc22 rfl ?_
  obtain ⟨p23, q24, h⟩ := h
  refine WQ_val rfl gd0 (o_nilCheck (by exact (congrArg Value.pointer q24))) rfl ?_
  refine WQ_val rfl gd0 (o_fieldAddr0 Try.underlying50 rfl Try.sizeOf48 rfl rfl rfl) rfl ?_
  obtain ⟨x_a25, x_n26, x_c27, hc28, h⟩ := h
  refine WQ_look (fun w => w.cell? p23 = some (.slice x_a25 x_n26 x_c27)) rfl gd0 (fun w hc => (o_load Try.isAgg48 rfl hc)) hc28 rfl ?_
  refine WQ_val rfl gd0 (o_move (v := .int .i64 k2) (by exact e1)) rfl ?_
  obtain ⟨p31, q32, h⟩ := h
  obtain ⟨l29, u30, h⟩ := h
  refine WQ_val rfl gd0 (o_indexAddr Try.underlying48 Try.sizeOf52 (by exact (congrArg (fun z => Value.slice z x_n26 x_c27) q32)) rfl l29 u30) rfl ?_
  refine WQ_val rfl gd0 (o_fieldAddr0 Try.underlying52 rfl Try.sizeOf35 rfl rfl rfl) rfl ?_
  refine WQ_val rfl gd0 (o_fieldAddr 1 Try.underlying35 rfl Try.sizeOf3 rfl rfl rfl) rfl ?_
  obtain ⟨x33, hc34, h⟩ := h
  refine WQ_look (fun w => w.cell? ((p31.add (k2.toNat * 5)).add 1) = some (.int .i64 x33)) rfl gd0 (fun w hc => (o_load Try.isAgg3 rfl hc)) hc34 rfl ?_
  refine WQ_call rfl gd0 (o_call Try.call20 (argCons rfl (argCons rfl argNil)) _) rfl (h.mono ?_)
  rintro _ w35 ⟨t36, rfl, h⟩
  refine ⟨⟨⟨⟨⟨⟨⟨trivial, depT (by kernel_rfl)⟩, depT (by kernel_rfl)⟩, depT (by kernel_rfl)⟩, depT (by kernel_rfl)⟩, depT (by kernel_rfl)⟩, depT (by kernel_rfl)⟩, ?_⟩
  refine WQ_val rfl gd0 (o_assign (v := .int .i64 t36) rfl) rfl ?_
  refine WQ_nil ?_
  refine nrm ?_
  refine WC_ret ?_
  refine rtE ?_
  exact gv1 rfl rfl h

/-- cmp.Compare int  -/
def F20 (x1 : Int) (y2 : Int) (w3 : World) (k : Value → World → Prop) : Prop :=
  Does Try.prog 29 #[.int .i64 x1] w3 (fun v w4 => ∃ (xNaN5 : Bool), v = .bool xNaN5 ∧ Does Try.prog 29 #[.int .i64 y2] w4 (fun v w6 => ∃ (yNaN7 : Bool), v = .bool yNaN7 ∧ if xNaN5 = true then
  if yNaN7 = true then
    k (.int .i64 0) w6
  else
    k (.int .i64 (-1)) w6
else
  if yNaN7 = true then
    k (.int .i64 1) w6
  else
    if x1 < y2 then
      k (.int .i64 (-1)) w6
    else
      if y2 < x1 then
        k (.int .i64 1) w6
      else
        k (.int .i64 0) w6))
set_option maxRecDepth 100000 in
set_option maxHeartbeats 2000000 in
theorem w20 (x1 : Int) (y2 : Int) (w3 : World) (k : Value → World → Prop) (h : F20 x1 y2 w3 k) : Does Try.prog 20 #[.int .i64 x1, .int .i64 y2] w3 k := by
  refine enter 20 Try.func20 rfl rfl rfl ?_
  intro ρ hρ
  have e0 := hρ 0 _ rfl
  have e1 := hρ 1 _ rfl
  unfold F20 at h
  refine WC_seq ?_
  refine WC_region ?_
  refine WL_val gd0 ((o_assign (v := .int .i64 0) rfl) _) rfl ?_
  refine WL_nil ?_
  refine nrm ?_
  refine WC_seq ?_
  refine WC_region ?_
  refine WL_val gd0 ((o_move (v := .int .i64 x1) (by exact e0)) _) rfl ?_
  refine WL_call gd0 (o_call Try.call29 (argCons rfl argNil) _) rfl (h.mono ?_)
  rintro _ w4 ⟨xNaN5, rfl, h⟩
  refine WL_val gd0 ((o_assign (v := .bool xNaN5) rfl) _) rfl ?_
  refine WL_nil ?_
  refine nrm ?_
  refine WC_seq ?_
  refine WC_region ?_
  refine WL_val gd0 ((o_move (v := .int .i64 y2) (by exact e1)) _) rfl ?_
  refine WL_call gd0 (o_call Try.call29 (argCons rfl argNil) _) rfl (h.mono ?_)
  rintro _ w6 ⟨yNaN7, rfl, h⟩
  refine WL_val gd0 ((o_assign (v := .bool yNaN7) rfl) _) rfl ?_
  refine WL_nil ?_
  refine nrm ?_
  refine WC_seq ?_
  refine WC_seq ?_
  refine WC_region ?_
  refine WL_val gd0 ((o_move (v := .bool xNaN5) rfl) _) rfl ?_
  refine WL_nil ?_
  refine nrm ?_
  refine WC_cond (t := xNaN5) rfl (fun hb8 => ?_) (fun hb8 => ?_)
  · rw [if_pos hb8] at h
    refine WC_seq ?_
    refine WC_seq ?_
    refine WC_region ?_
    refine WL_val gd0 ((o_move (v := .bool yNaN7) rfl) _) rfl ?_
    refine WL_nil ?_
    refine nrm ?_
    refine WC_cond (t := yNaN7) rfl (fun hb9 => ?_) (fun hb9 => ?_)
    · rw [if_pos hb9] at h
      refine WC_seq ?_
      refine WC_region ?_
      refine WL_val gd0 ((o_assign (v := .int .i64 0) rfl) _) rfl ?_
      refine WL_nil ?_
      refine nrm ?_
      refine WC_ret ?_
      refine rtT ?_
      refine rtT ?_
      refine rtE ?_
      exact gv1 rfl rfl h
    · rw [if_neg (neT hb9)] at h
      refine WC_skip ?_
      refine nrm ?_
      refine WC_seq ?_
      refine WC_region ?_
      refine WL_val gd0 ((o_assign (v := .int .i64 (-1)) rfl) _) rfl ?_
      refine WL_nil ?_
      refine nrm ?_
      refine WC_ret ?_
      refine rtT ?_
      refine rtE ?_
      exact gv1 rfl rfl h
  · rw [if_neg (neT hb8)] at h
    refine WC_skip ?_
    refine nrm ?_
    refine WC_seq ?_
    refine WC_seq ?_
    refine WC_region ?_
    refine WL_val gd0 ((o_move (v := .bool yNaN7) rfl) _) rfl ?_
    refine WL_nil ?_
    refine nrm ?_
    refine WC_cond (t := yNaN7) rfl (fun hb10 => ?_) (fun hb10 => ?_)
    · rw [if_pos hb10] at h
      refine WC_seq ?_
      refine WC_region ?_
      refine WL_val gd0 ((o_assign (v := .int .i64 1) rfl) _) rfl ?_
      refine WL_nil ?_
      refine nrm ?_
      refine WC_ret ?_
      refine rtT ?_
      refine rtE ?_
      exact gv1 rfl rfl h
    · rw [if_neg (neT hb10)] at h
      refine WC_skip ?_
      refine nrm ?_
      refine WC_seq ?_
      refine WC_seq ?_
      refine WC_region ?_
      refine WL_val gd0 ((o_move (v := .int .i64 x1) (by exact e0)) _) rfl ?_
      refine WL_val gd0 ((o_move (v := .int .i64 y2) (by exact e1)) _) rfl ?_
      refine WL_val gd0 ((o_lss rfl rfl) _) rfl ?_
      refine WL_nil ?_
      refine nrm ?_
      refine WC_cond (t := (decide (x1 < y2))) rfl (fun hb11 => ?_) (fun hb11 => ?_)
      · rw [if_pos (of_decide_eq_true hb11)] at h
        refine WC_seq ?_
        refine WC_region ?_
        refine WL_val gd0 ((o_assign (v := .int .i64 (-1)) rfl) _) rfl ?_
        refine WL_nil ?_
        refine nrm ?_
        refine WC_ret ?_
        refine rtT ?_
        refine rtE ?_
        exact gv1 rfl rfl h
      · rw [if_neg (of_decide_eq_false hb11)] at h
        refine WC_skip ?_
        refine nrm ?_
        refine WC_seq ?_
        refine WC_seq ?_
        refine WC_region ?_
        refine WL_val gd0 ((o_move (v := .int .i64 x1) (by exact e0)) _) rfl ?_
        refine WL_val gd0 ((o_move (v := .int .i64 y2) (by exact e1)) _) rfl ?_
        refine WL_val gd0 ((o_gtr rfl rfl) _) rfl ?_
        refine WL_nil ?_
        refine nrm ?_
        refine WC_cond (t := (decide (y2 < x1))) rfl (fun hb12 => ?_) (fun hb12 => ?_)
        · rw [if_pos (of_decide_eq_true hb12)] at h
          refine WC_seq ?_
          refine WC_region ?_
          refine WL_val gd0 ((o_assign (v := .int .i64 1) rfl) _) rfl ?_
          refine WL_nil ?_
          refine nrm ?_
          refine WC_ret ?_
          refine rtT ?_
          refine rtE ?_
          exact gv1 rfl rfl h
        · rw [if_neg (of_decide_eq_false hb12)] at h
          refine WC_skip ?_
          refine nrm ?_
          refine WC_seq ?_
          refine WC_region ?_
          refine WL_val gd0 ((o_assign (v := .int .i64 0) rfl) _) rfl ?_
          refine WL_nil ?_
          refine nrm ?_
          refine WC_ret ?_
          refine rtE ?_
          exact gv1 rfl rfl h

def F21c22_b1 (s_n2 : Nat) (s_a1 : Option Addr) (q4 : Option Addr) (q5 : Option Addr) (s_c3 : Nat) (i13 : Int) (j15 : Int) (w16 : World) (nx16 : Int → Int → World → Prop) (k : Value → World → Prop) : Prop :=
  if j15 < (s_n2 : Int) then
  ∃ (p21 : Addr), s_a1 = some p21 ∧ (0 : Int) ≤ j15 ∧ j15 < (s_n2 : Int) ∧ ∃ (v23 : Int), w16.cell? (p21.add j15.toNat) = some (.int .i64 v23) ∧ Does Try.prog 22 #[.int .i64 v23, .pointer q4, .pointer q5] w16 (fun v w25 => ∃ (x26 : Bool), v = .bool x26 ∧ if (!x26) = true then
    (0 : Int) ≤ i13 ∧ i13 < (s_n2 : Int) ∧ Put w25 (p21.add i13.toNat) (.int .i64 v23) (fun w30 => nx16 (IntKind.i64.wrap (i13 + 1)) (IntKind.i64.wrap (j15 + 1)) w30)
  else
    nx16 i13 (IntKind.i64.wrap (j15 + 1)) w25)
else
  (0 : Int) ≤ i13 ∧ i13 ≤ (s_n2 : Int) ∧ ∃ (w34 : World), (Builtin.clear_ #[28] 0 #[.slice (cutA s_a1 s_c3 i13.toNat 1) (s_n2 - i13.toNat) (s_c3 - i13.toNat)]).run Try.prog w16 = .ok (.tuple #[]) w34 ∧ (0 : Int) ≤ i13 ∧ i13 ≤ (s_c3 : Int) ∧ k (.slice s_a1 i13.toNat s_c3) w34
/-- slices.DeleteFunc   int,int  -/
def F21c22 (s_a1 : Option Addr) (s_n2 : Nat) (s_c3 : Nat) (q4 : Option Addr) (q5 : Option Addr) (w6 : World) (k : Value → World → Prop) : Prop :=
  Does Try.prog 30 #[.slice s_a1 s_n2 s_c3, .func (.func 22) #[] #[.pointer q4, .pointer q5]] w6 (fun v w7 => ∃ (i8 : Int), v = .int .i64 i8 ∧ if i8 = (-1) then
  k (.slice s_a1 s_n2 s_c3) w7
else
  LoopP (fun (s : Int × Int) w' nx' => F21c22_b1 s_n2 s_a1 q4 q5 s_c3 (s.1) (s.2) w' (fun x0 x1 w => nx' (x0, x1) w) k) (i8, (IntKind.i64.wrap (i8 + 1))) w7)
set_option maxRecDepth 100000 in
set_option maxHeartbeats 2000000 in
theorem w21c22 (s_a1 : Option Addr) (s_n2 : Nat) (s_c3 : Nat) (q4 : Option Addr) (q5 : Option Addr) (w6 : World) (k : Value → World → Prop) (h : F21c22 s_a1 s_n2 s_c3 q4 q5 w6 k) : Does Try.prog 21 #[.slice s_a1 s_n2 s_c3, .func (.func 22) #[] #[.pointer q4, .pointer q5]] w6 k := by
  refine enter 42 Try.func21 rfl rfl rfl ?_
  intro ρ hρ
  have e0 := hρ 0 _ rfl
  have e1 := hρ 1 _ rfl
  unfold F21c22 at h
  refine WC_seq ?_
  refine WC_region ?_
  refine WL_val gd0 ((o_assign (v := .slice none 0 0) rfl) _) rfl ?_
  refine WL_nil ?_
  refine nrm ?_
  refine WC_seq ?_
  refine WC_region ?_
  refine WL_val gd0 ((o_move (v := .slice s_a1 s_n2 s_c3) (by exact e0)) _) rfl ?_
  refine WL_val gd0 ((o_move (v := .func (.func 22) #[] #[.pointer q4, .pointer q5]) (by exact e1)) _) rfl ?_
  refine WL_call gd0 (o_call Try.call30 (argCons rfl (argCons rfl argNil)) _) rfl (h.mono ?_)
  rintro _ w7 ⟨i8, rfl, h⟩
  refine WL_val gd0 ((o_assign (v := .int .i64 i8) rfl) _) rfl ?_
  refine WL_nil ?_
  refine nrm ?_
  refine WC_seq ?_
  refine WC_seq ?_
  refine WC_region ?_
  refine WL_val gd0 ((o_move (v := .int .i64 i8) rfl) _) rfl ?_
  refine WL_val gd0 ((o_eql rfl rfl) _) rfl ?_
  refine WL_nil ?_
  refine nrm ?_
  refine WC_cond (t := (decide (i8 = (-1)))) rfl (fun hb9 => ?_) (fun hb9 => ?_)
  · rw [if_pos (of_decide_eq_true hb9)] at h
    refine WC_seq ?_
    refine WC_region ?_
    refine WL_val gd0 ((o_move (v := .slice s_a1 s_n2 s_c3) (by exact e0)) _) rfl ?_
    refine WL_val gd0 ((o_assign (v := .slice s_a1 s_n2 s_c3) rfl) _) rfl ?_
    refine WL_nil ?_
    refine nrm ?_
    refine WC_ret ?_
    refine rtT ?_
    refine rtE ?_
    exact gv1 rfl rfl h
  · rw [if_neg (of_decide_eq_false hb9)] at h
    refine WC_skip ?_
    refine nrm ?_
    refine WC_seq ?_
    refine WC_seq ?_
    refine WC_region ?_
    refine WL_val gd0 ((o_move (v := .int .i64 i8) rfl) _) rfl ?_
    refine WL_val gd0 ((o_add rfl rfl) _) rfl ?_
    refine WL_val gd0 ((o_assign (v := .int .i64 (IntKind.i64.wrap (i8 + 1))) rfl) _) rfl ?_
    refine WL_nil ?_
    refine nrm ?_
    refine WC_block ?_
    obtain ⟨J16, ⟨n16, h0⟩, hr16⟩ := h
    refine WC_loop (fun n ρ w' => ∃ (i13 j15 : Int), ρ 5 = .int .i64 i13 ∧ ρ 6 = .int .i64 j15 ∧ ρ 0 = .slice s_a1 s_n2 s_c3 ∧ ρ 1 = .func (.func 22) #[] #[.pointer q4, .pointer q5] ∧ J16 n (i13, j15) w') ⟨n16, _, _, rfl, rfl, e0, e1, h0⟩ ?_
    rintro n16 ρ w16 ⟨i13, j15, e5_12, e6_14, e0_10, e1_11, h⟩
    have h : F21c22_b1 s_n2 s_a1 q4 q5 s_c3 i13 j15 w16 (fun x0 x1 w => ∃ m, m < n16 ∧ J16 m (x0, x1) w) k := hr16 n16 (i13, j15) w16 h
    unfold F21c22_b1 at h
    refine WC_seq ?_
    refine WC_seq ?_
    refine WC_region ?_
    refine WL_val gd0 ((o_move (v := .int .i64 j15) (by exact e6_14)) _) rfl ?_
    refine WL_val gd0 ((o_move (v := .slice s_a1 s_n2 s_c3) (by exact e0_10)) _) rfl ?_
    refine WL_val gd0 ((o_len Try.underlying28 rfl) _) rfl ?_
    refine WL_val gd0 ((o_lss rfl rfl) _) rfl ?_
    refine WL_nil ?_
    refine nrm ?_
    refine WC_cond (t := (decide (j15 < (s_n2 : Int)))) rfl (fun hb18 => ?_) (fun hb18 => ?_)
    · rw [if_pos (of_decide_eq_true hb18)] at h
      refine WC_skip ?_
      refine nrm ?_
      refine WC_seq ?_
      refine WC_block ?_
      refine WC_seq ?_
      refine WC_region ?_
      refine WL_val gd0 ((o_move (v := .slice s_a1 s_n2 s_c3) (by exact e0_10)) _) rfl ?_
      refine WL_val gd0 ((o_move (v := .int .i64 j15) (by exact e6_14)) _) rfl ?_
      obtain ⟨p21, q22, h⟩ := h
      obtain ⟨l19, u20, h⟩ := h
      refine WL_val gd0 ((o_indexAddr1 Try.underlying28 Try.sizeOf3 (by exact (congrArg (fun z => Value.slice z s_n2 s_c3) q22)) rfl l19 u20) _) rfl ?_
      obtain ⟨v23, hc24, h⟩ := h
      refine WL_val gd0 (o_load Try.isAgg3 rfl hc24) rfl ?_
      refine WL_val gd0 ((o_assign (v := .int .i64 v23) rfl) _) rfl ?_
      refine WL_nil ?_
      refine nrm ?_
      refine WC_seq ?_
      refine WC_region ?_
      refine WL_val gd0 ((o_move (v := .func (.func 22) #[] #[.pointer q4, .pointer q5]) (by exact e1_11)) _) rfl ?_
      refine WL_val gd0 ((o_move (v := .int .i64 v23) rfl) _) rfl ?_
      refine WL_call gd0 (o_callVal (bs := []) (cs := [.pointer q4, .pointer q5]) Try.call22 rfl (argCons rfl argNil) _) rfl (h.mono ?_)
      rintro _ w25 ⟨x26, rfl, h⟩
      refine WL_val gd0 ((o_not rfl) _) rfl ?_
      refine WL_nil ?_
      refine nrm ?_
      refine WC_cond (t := (!x26)) rfl (fun hb27 => ?_) (fun hb27 => ?_)
      · rw [if_pos hb27] at h
        refine WC_seq ?_
        refine WC_region ?_
        refine WL_val gd0 ((o_move (v := .slice s_a1 s_n2 s_c3) (by exact e0_10)) _) rfl ?_
        refine WL_val gd0 ((o_move (v := .int .i64 i13) (by exact e5_12)) _) rfl ?_
        refine WL_val gd0 ((o_move (v := .int .i64 v23) rfl) _) rfl ?_
        obtain ⟨l28, u29, h⟩ := h
        refine WL_val gd0 ((o_indexAddr1 Try.underlying28 Try.sizeOf3 (by exact (congrArg (fun z => Value.slice z s_n2 s_c3) q22)) rfl l28 u29) _) rfl ?_
        obtain ⟨c31, h⟩ := h
        refine WL_act gd0 (o_store (v := .int .i64 v23) Try.sizeOf3 rfl rfl rfl c31) ?_
        generalize hw30 : World.setCell w25 (p21.add i13.toNat) (.int .i64 v23) = w30 at h ⊢
        try dsimp only at h
        refine WL_nil ?_
        refine nrm ?_
        refine WC_region ?_
        refine WL_val gd0 ((o_move (v := .int .i64 i13) (by exact e5_12)) _) rfl ?_
        refine WL_val gd0 ((o_add rfl rfl) _) rfl ?_
        refine WL_val gd0 ((o_assign (v := .int .i64 (IntKind.i64.wrap (i13 + 1))) rfl) _) rfl ?_
        refine WL_nil ?_
        refine nrmB ?_
        refine nrm ?_
        refine WC_region ?_
        refine WL_val gd0 ((o_move (v := .int .i64 j15) (by exact e6_14)) _) rfl ?_
        refine WL_val gd0 ((o_add rfl rfl) _) rfl ?_
        refine WL_val gd0 ((o_assign (v := .int .i64 (IntKind.i64.wrap (j15 + 1))) rfl) _) rfl ?_
        refine WL_nil ?_
        refine nrm ?_
        obtain ⟨m17, hm17, h⟩ := h
        exact ⟨m17, hm17, _, _, rfl, rfl, e0_10, e1_11, h⟩
      · rw [if_neg (neT hb27)] at h
        refine WC_skip ?_
        refine nrmB ?_
        refine nrm ?_
        refine WC_region ?_
        refine WL_val gd0 ((o_move (v := .int .i64 j15) (by exact e6_14)) _) rfl ?_
        refine WL_val gd0 ((o_add rfl rfl) _) rfl ?_
        refine WL_val gd0 ((o_assign (v := .int .i64 (IntKind.i64.wrap (j15 + 1))) rfl) _) rfl ?_
        refine WL_nil ?_
        refine nrm ?_
        obtain ⟨m17, hm17, h⟩ := h
        exact ⟨m17, hm17, _, _, e5_12, rfl, e0_10, e1_11, h⟩
    · rw [if_neg (of_decide_eq_false hb18)] at h
      refine WC_exit ?_
      refine exT ?_
      refine exT ?_
      refine exB ?_
      refine nrm ?_
      refine WC_seq ?_
      refine WC_region ?_
      refine WL_val gd0 ((o_move (v := .slice s_a1 s_n2 s_c3) (by exact e0_10)) _) rfl ?_
      refine WL_val gd0 ((o_move (v := .int .i64 i13) (by exact e5_12)) _) rfl ?_
      obtain ⟨c32, c33, h⟩ := h
      refine WL_val gd0 ((o_sliceL Try.underlying28 Try.sizeOf3 rfl rfl c32 c33) _) rfl ?_
      obtain ⟨w34, r35, h⟩ := h
      refine WL_valNone gd0 (o_clear rfl r35) ?_
      refine WL_nil ?_
      refine nrm ?_
      refine WC_seq ?_
      refine WC_region ?_
      refine WL_val gd0 ((o_move (v := .slice s_a1 s_n2 s_c3) (by exact e0_10)) _) rfl ?_
      refine WL_val gd0 ((o_move (v := .int .i64 i13) (by exact e5_12)) _) rfl ?_
      obtain ⟨c36, c37, h⟩ := h
      refine WL_val gd0 ((o_sliceH Try.underlying28 Try.sizeOf3 rfl rfl c36 c37) _) rfl ?_
      refine WL_val gd0 ((o_assign (v := .slice s_a1 i13.toNat s_c3) rfl) _) rfl ?_
      refine WL_nil ?_
      refine nrm ?_
      refine WC_ret ?_
      refine rtE ?_
      exact gv1 rfl rfl h

/-- (*spacecraft mux.Mux).Next 2 -/
def F22 (i1 : Int) (t2 : Option Addr) (t3 : Option Addr) (w4 : World) (k : Value → World → Prop) : Prop :=
  ∃ (p5 : Addr), t2 = some p5 ∧ ∃ (x7 : Option Addr), w4.drew.cell? p5 = some (.pointer x7) ∧ ∃ (p9 : Addr), x7 = some p9 ∧ ∃ (x_a11 : Option Addr) (x_n12 x_c13 : Nat), w4.drew.cell? p9 = some (.slice x_a11 x_n12 x_c13) ∧ ∃ (p17 : Addr), x_a11 = some p17 ∧ (0 : Int) ≤ i1 ∧ i1 < (x_n12 : Int) ∧ ∃ (x19 : Int), w4.drew.cell? ((p17.add (i1.toNat * 5)).add 1) = some (.int .i64 x19) ∧ ∃ (p21 : Addr), t3 = some p21 ∧ ∃ (x23 : Int), w4.drew.cell? p21 = some (.int .i64 x23) ∧ k (.bool (decide (x19 ≠ x23))) w4.drew
set_option maxRecDepth 100000 in
set_option maxHeartbeats 2000000 in
theorem w22 (i1 : Int) (t2 : Option Addr) (t3 : Option Addr) (w4 : World) (k : Value → World → Prop) (h : F22 i1 t2 t3 w4 k) : Does Try.prog 22 #[.int .i64 i1, .pointer t2, .pointer t3] w4 k := by
  refine enter 16 Try.func22 rfl rfl rfl ?_
  intro ρ hρ
  have e0 := hρ 0 _ rfl
  have e1 := hρ 1 _ rfl
  have e2 := hρ 2 _ rfl
  unfold F22 at h
  refine WC_seq ?_
  refine WC_region ?_
  refine WL_val gd0 ((o_assign (v := .bool false) rfl) _) rfl ?_
  refine WL_nil ?_
  refine nrm ?_
  refine WC_seq ?_
  refine WC_draws [] (.look 0 (.look 1 (.look 2 (.look 3 (.look 4 (.look 5 (.look 6 (.look 7 (.look 8 (.look 9 (.look 10 (.look 11 .nil)))))))))))) Try.mixed (by kernel_rfl) ?_
  obtain ⟨p5, q6, h⟩ := h
  obtain ⟨x7, hc8, h⟩ := h
  refine WQ_look (fun w => w.cell? p5 = some (.pointer x7)) rfl gd0 (fun w hc => (o_load Try.isAgg24 (by exact (Eq.trans e1 (congrArg Value.pointer q6))) hc)) hc8 rfl ?_
  obtain ⟨p9, q10, h⟩ := h
  refine WQ_val rfl gd0 (o_nilCheck (by exact (congrArg Value.pointer q10))) rfl ?_
  refine WQ_val rfl gd0 (o_fieldAddr0 Try.underlying50 rfl Try.sizeOf48 rfl rfl rfl) rfl ?_
  obtain ⟨x_a11, x_n12, x_c13, hc14, h⟩ := h
  refine WQ_look (fun w => w.cell? p9 = some (.slice x_a11 x_n12 x_c13)) rfl gd0 (fun w hc => (o_load Try.isAgg48 rfl hc)) hc14 rfl ?_
  refine WQ_val rfl gd0 (o_move (v := .int .i64 i1) (by exact e0)) rfl ?_
  obtain ⟨p17, q18, h⟩ := h
  obtain ⟨l15, u16, h⟩ := h
  refine WQ_val rfl gd0 (o_indexAddr Try.underlying48 Try.sizeOf52 (by exact (congrArg (fun z => Value.slice z x_n12 x_c13) q18)) rfl l15 u16) rfl ?_
  refine WQ_val rfl gd0 (o_fieldAddr0 Try.underlying52 rfl Try.sizeOf35 rfl rfl rfl) rfl ?_
  refine WQ_val rfl gd0 (o_fieldAddr 1 Try.underlying35 rfl Try.sizeOf3 rfl rfl rfl) rfl ?_
  obtain ⟨x19, hc20, h⟩ := h
  refine WQ_look (fun w => w.cell? ((p17.add (i1.toNat * 5)).add 1) = some (.int .i64 x19)) rfl gd0 (fun w hc => (o_load Try.isAgg3 rfl hc)) hc20 rfl ?_
  obtain ⟨p21, q22, h⟩ := h
  obtain ⟨x23, hc24, h⟩ := h
  refine WQ_look (fun w => w.cell? p21 = some (.int .i64 x23)) rfl gd0 (fun w hc => (o_load Try.isAgg3 (by exact (Eq.trans e2 (congrArg Value.pointer q22))) hc)) hc24 rfl ?_
  refine WQ_val rfl gd0 (o_neq rfl rfl) rfl ?_
  refine WQ_val rfl gd0 (o_assign (v := .bool (decide (x19 ≠ x23))) rfl) rfl ?_
  refine WQ_nil ?_
  refine nrm ?_
  refine WC_ret ?_
  refine rtE ?_
  exact gv1 rfl rfl h

/-- (*spacecraft mux.Mux).Next 3 -/
def F23 (i1 : Int) (k2 : Int) (t3 : Option Addr) (w4 : World) (k : Value → World → Prop) : Prop :=
  ∃ (p5 : Addr), t3 = some p5 ∧ ∃ (x7 : Option Addr), w4.drew.cell? p5 = some (.pointer x7) ∧ ∃ (p9 : Addr), x7 = some p9 ∧ ∃ (x_a11 : Option Addr) (x_n12 x_c13 : Nat), w4.drew.cell? p9 = some (.slice x_a11 x_n12 x_c13) ∧ ∃ (p17 : Addr), x_a11 = some p17 ∧ (0 : Int) ≤ k2 ∧ k2 < (x_n12 : Int) ∧ ∃ (x19 : Int), w4.drew.cell? ((p17.add (k2.toNat * 5)).add 3) = some (.int .i64 x19) ∧ ∃ (x21 : Option Addr), w4.drew.cell? p5 = some (.pointer x21) ∧ ∃ (p23 : Addr), x21 = some p23 ∧ ∃ (x_a25 : Option Addr) (x_n26 x_c27 : Nat), w4.drew.cell? p23 = some (.slice x_a25 x_n26 x_c27) ∧ ∃ (p31 : Addr), x_a25 = some p31 ∧ (0 : Int) ≤ i1 ∧ i1 < (x_n26 : Int) ∧ ∃ (x33 : Int), w4.drew.cell? ((p31.add (i1.toNat * 5)).add 3) = some (.int .i64 x33) ∧ ∃ (x35 : Option Addr), w4.drew.cell? p5 = some (.pointer x35) ∧ ∃ (p37 : Addr), x35 = some p37 ∧ ∃ (x_a39 : Option Addr) (x_n40 x_c41 : Nat), w4.drew.cell? p37 = some (.slice x_a39 x_n40 x_c41) ∧ ∃ (p45 : Addr), x_a39 = some p45 ∧ (0 : Int) ≤ i1 ∧ i1 < (x_n40 : Int) ∧ ∃ (x47 : Int), w4.drew.cell? (p45.add (i1.toNat * 5)) = some (.int .i64 x47) ∧ ∃ (x49 : Option Addr), w4.drew.cell? p5 = some (.pointer x49) ∧ ∃ (p51 : Addr), x49 = some p51 ∧ ∃ (x_a53 : Option Addr) (x_n54 x_c55 : Nat), w4.drew.cell? p51 = some (.slice x_a53 x_n54 x_c55) ∧ ∃ (p59 : Addr), x_a53 = some p59 ∧ (0 : Int) ≤ k2 ∧ k2 < (x_n54 : Int) ∧ ∃ (x61 : Int), w4.drew.cell? (p59.add (k2.toNat * 5)) = some (.int .i64 x61) ∧ Does Try.prog 20 #[.int .i64 x19, .int .i64 x33] w4.drew (fun v w63 => ∃ (x64 : Int), v = .int .i64 x64 ∧ w63.cell? p5 = some (.pointer x35) ∧ w63.cell? p37 = some (.slice x_a39 x_n40 x_c41) ∧ w63.cell? (p45.add (i1.toNat * 5)) = some (.int .i64 x47) ∧ w63.cell? p5 = some (.pointer x49) ∧ w63.cell? p51 = some (.slice x_a53 x_n54 x_c55) ∧ w63.cell? (p59.add (k2.toNat * 5)) = some (.int .i64 x61) ∧ Does Try.prog 20 #[.int .i64 x47, .int .i64 x61] w63 (fun v w71 => ∃ (x72 : Int), v = .int .i64 x72 ∧ New w71 3 [.int .i64 x64, .int .i64 x72] (fun p73 w74 => Does Try.prog 24 #[.slice (some p73) 2 2] w74 (fun v w75 => ∃ (t76 : Int), v = .int .i64 t76 ∧ k (.int .i64 t76) w75))))
set_option maxRecDepth 100000 in
set_option maxHeartbeats 2000000 in
theorem w23 (i1 : Int) (k2 : Int) (t3 : Option Addr) (w4 : World) (k : Value → World → Prop) (h : F23 i1 k2 t3 w4 k) : Does Try.prog 23 #[.int .i64 i1, .int .i64 k2, .pointer t3] w4 k := by
  refine enter 44 Try.func23 rfl rfl rfl ?_
  intro ρ hρ
  have e0 := hρ 0 _ rfl
  have e1 := hρ 1 _ rfl
  have e2 := hρ 2 _ rfl
  unfold F23 at h
  refine WC_seq ?_
  refine WC_region ?_
  refine WL_val gd0 ((o_assign (v := .int .i64 0) rfl) _) rfl ?_
  refine WL_nil ?_
  refine nrm ?_
  refine WC_seq ?_
  refine WC_draws [16, 35, 36, 37] (.look 0 (.look 1 (.look 2 (.look 3 (.look 4 (.look 5 (.look 6 (.look 7 (.look 8 (.look 9 (.look 10 (.look 11 (.look 12 (.look 13 (.look 14 (.look 15 (.look 17 (.look 18 (.look 19 (.look 20 (.look 21 (.look 22 (.look 23 (.look 24 (.look 25 (.look 26 (.look 27 (.look 28 (.look 29 (.look 30 (.look 31 (.look 32 (.look 33 (.look 34 (.act 16 (.act 35 (.act 36 (.act 37 (.look 38 .nil))))))))))))))))))))))))))))))))))))))) Try.mixed (by kernel_rfl) ?_
  obtain ⟨p5, q6, h⟩ := h
  obtain ⟨x7, hc8, h⟩ := h
  refine WQ_look (fun w => w.cell? p5 = some (.pointer x7)) rfl gd0 (fun w hc => (o_load Try.isAgg24 (by exact (Eq.trans e2 (congrArg Value.pointer q6))) hc)) hc8 rfl ?_
  obtain ⟨p9, q10, h⟩ := h
  refine WQ_val rfl gd0 (o_nilCheck (by exact (congrArg Value.pointer q10))) rfl ?_
  refine WQ_val rfl gd0 (o_fieldAddr0 Try.underlying50 rfl Try.sizeOf48 rfl rfl rfl) rfl ?_
  obtain ⟨x_a11, x_n12, x_c13, hc14, h⟩ := h
  refine WQ_look (fun w => w.cell? p9 = some (.slice x_a11 x_n12 x_c13)) rfl gd0 (fun w hc => (o_load Try.isAgg48 rfl hc)) hc14 rfl ?_
  refine WQ_val rfl gd0 (o_move (v := .int .i64 k2) (by exact e1)) rfl ?_
  obtain ⟨p17, q18, h⟩ := h
  obtain ⟨l15, u16, h⟩ := h
  refine WQ_val rfl gd0 (o_indexAddr Try.underlying48 Try.sizeOf52 (by exact (congrArg (fun z => Value.slice z x_n12 x_c13) q18)) rfl l15 u16) rfl ?_
  refine WQ_val rfl gd0 (o_fieldAddr 3 Try.underlying52 rfl Try.sizeOf3 rfl rfl rfl) rfl ?_
  obtain ⟨x19, hc20, h⟩ := h
  refine WQ_look (fun w => w.cell? ((p17.add (k2.toNat * 5)).add 3) = some (.int .i64 x19)) rfl gd0 (fun w hc => (o_load Try.isAgg3 rfl hc)) hc20 rfl ?_
  obtain ⟨x21, hc22, h⟩ := h
  refine WQ_look (fun w => w.cell? p5 = some (.pointer x21)) rfl gd0 (fun w hc => (o_load Try.isAgg24 (by exact (Eq.trans e2 (congrArg Value.pointer q6))) hc)) hc22 rfl ?_
  obtain ⟨p23, q24, h⟩ := h
  refine WQ_val rfl gd0 (o_nilCheck (by exact (congrArg Value.pointer q24))) rfl ?_
  refine WQ_val rfl gd0 (o_fieldAddr0 Try.underlying50 rfl Try.sizeOf48 rfl rfl rfl) rfl ?_
  obtain ⟨x_a25, x_n26, x_c27, hc28, h⟩ := h
  refine WQ_look (fun w => w.cell? p23 = some (.slice x_a25 x_n26 x_c27)) rfl gd0 (fun w hc => (o_load Try.isAgg48 rfl hc)) hc28 rfl ?_
  refine WQ_val rfl gd0 (o_move (v := .int .i64 i1) (by exact e0)) rfl ?_
  obtain ⟨p31, q32, h⟩ := h
  obtain ⟨l29, u30, h⟩ := h
  refine WQ_val rfl gd0 (o_indexAddr Try.underlying48 Try.sizeOf52 (by exact (congrArg (fun z => Value.slice z x_n26 x_c27) q32)) rfl l29 u30) rfl ?_
  refine WQ_val rfl gd0 (o_fieldAddr 3 Try.underlying52 rfl Try.sizeOf3 rfl rfl rfl) rfl ?_
  obtain ⟨x33, hc34, h⟩ := h
  refine WQ_look (fun w => w.cell? ((p31.add (i1.toNat * 5)).add 3) = some (.int .i64 x33)) rfl gd0 (fun w hc => (o_load Try.isAgg3 rfl hc)) hc34 rfl ?_
  obtain ⟨x35, hc36, h⟩ := h
  refine WQ_look (fun w => w.cell? p5 = some (.pointer x35)) rfl gd0 (fun w hc => (o_load Try.isAgg24 (by exact (Eq.trans e2 (congrArg Value.pointer q6))) hc)) hc36 rfl ?_
  obtain ⟨p37, q38, h⟩ := h
  refine WQ_val rfl gd0 (o_nilCheck (by exact (congrArg Value.pointer q38))) rfl ?_
  refine WQ_val rfl gd0 (o_fieldAddr0 Try.underlying50 rfl Try.sizeOf48 rfl rfl rfl) rfl ?_
  obtain ⟨x_a39, x_n40, x_c41, hc42, h⟩ := h
  refine WQ_look (fun w => w.cell? p37 = some (.slice x_a39 x_n40 x_c41)) rfl gd0 (fun w hc => (o_load Try.isAgg48 rfl hc)) hc42 rfl ?_
  refine WQ_val rfl gd0 (o_move (v := .int .i64 i1) (by exact e0)) rfl ?_
  obtain ⟨p45, q46, h⟩ := h
  obtain ⟨l43, u44, h⟩ := h
  refine WQ_val rfl gd0 (o_indexAddr Try.underlying48 Try.sizeOf52 (by exact (congrArg (fun z => Value.slice z x_n40 x_c41) q46)) rfl l43 u44) rfl ?_
  refine WQ_val rfl gd0 (o_fieldAddr0 Try.underlying52 rfl Try.sizeOf35 rfl rfl rfl) rfl ?_
  refine WQ_val rfl gd0 (o_fieldAddr0 Try.underlying35 rfl Try.sizeOf3 rfl rfl rfl) rfl ?_
  obtain ⟨x47, hc48, h⟩ := h
  refine WQ_look (fun w => w.cell? (p45.add (i1.toNat * 5)) = some (.int .i64 x47)) rfl gd0 (fun w hc => (o_load Try.isAgg3 rfl hc)) hc48 rfl ?_
  obtain ⟨x49, hc50, h⟩ := h
  refine WQ_look (fun w => w.cell? p5 = some (.pointer x49)) rfl gd0 (fun w hc => (o_load Try.isAgg24 (by exact (Eq.trans e2 (congrArg Value.pointer q6))) hc)) hc50 rfl ?_
  obtain ⟨p51, q52, h⟩ := h
  refine WQ_val rfl gd0 (o_nilCheck (by exact (congrArg Value.pointer q52))) rfl ?_
  refine WQ_val rfl gd0 (o_fieldAddr0 Try.underlying50 rfl Try.sizeOf48 rfl rfl rfl) rfl ?_
  obtain ⟨x_a53, x_n54, x_c55, hc56, h⟩ := h
  refine WQ_look (fun w => w.cell? p51 = some (.slice x_a53 x_n54 x_c55)) rfl gd0 (fun w hc => (o_load Try.isAgg48 rfl hc)) hc56 rfl ?_
  refine WQ_val rfl gd0 (o_move (v := .int .i64 k2) (by exact e1)) rfl ?_
  obtain ⟨p59, q60, h⟩ := h
  obtain ⟨l57, u58, h⟩ := h
  refine WQ_val rfl gd0 (o_indexAddr Try.underlying48 Try.sizeOf52 (by exact (congrArg (fun z => Value.slice z x_n54 x_c55) q60)) rfl l57 u58) rfl ?_
  refine WQ_val rfl gd0 (o_fieldAddr0 Try.underlying52 rfl Try.sizeOf35 rfl rfl rfl) rfl ?_
  refine WQ_val rfl gd0 (o_fieldAddr0 Try.underlying35 rfl Try.sizeOf3 rfl rfl rfl) rfl ?_
  obtain ⟨x61, hc62, h⟩ := h
  refine WQ_look (fun w => w.cell? (p59.add (k2.toNat * 5)) = some (.int .i64 x61)) rfl gd0 (fun w hc => (o_load Try.isAgg3 rfl hc)) hc62 rfl ?_
  refine WQ_call rfl gd0 (o_call Try.call20 (argCons rfl (argCons rfl argNil)) _) rfl (h.mono ?_)
  rintro _ w63 ⟨x64, rfl, hh65, hh66, hh67, hh68, hh69, hh70, h⟩
  refine ⟨⟨⟨⟨⟨⟨⟨⟨⟨⟨⟨⟨⟨trivial, depT (by kernel_rfl)⟩, depT (by kernel_rfl)⟩, depT (by kernel_rfl)⟩, depT (by kernel_rfl)⟩, depT (by kernel_rfl)⟩, depT (by kernel_rfl)⟩, fun _ => hh65⟩, fun _ => hh66⟩, fun _ => hh67⟩, fun _ => hh68⟩, fun _ => hh69⟩, fun _ => hh70⟩, ?_⟩
  refine WQ_call rfl gd0 (o_call Try.call20 (argCons rfl (argCons rfl argNil)) _) rfl (h.mono ?_)
  rintro _ w71 ⟨x72, rfl, h⟩
  refine ⟨⟨⟨⟨⟨⟨⟨⟨⟨⟨⟨⟨⟨trivial, depT (by kernel_rfl)⟩, depT (by kernel_rfl)⟩, depT (by kernel_rfl)⟩, depT (by kernel_rfl)⟩, depT (by kernel_rfl)⟩, depT (by kernel_rfl)⟩, depT (by kernel_rfl)⟩, depT (by kernel_rfl)⟩, depT (by kernel_rfl)⟩, depT (by kernel_rfl)⟩, depT (by kernel_rfl)⟩, depT (by kernel_rfl)⟩, ?_⟩
  have h := New.out h
  refine WQ_act rfl gd0 (o_buildSlice (e := 3) (ps := [(0, .int .i64 x64), (1, .int .i64 x72)]) (cs := [.int .i64 x64, .int .i64 x72]) (partCons rfl (partCons rfl partNil)) (fun w => by kernel_rfl)) rfl (by exact ⟨⟨⟨⟨⟨⟨⟨⟨⟨⟨⟨⟨trivial, depT (by kernel_rfl)⟩, depT (by kernel_rfl)⟩, depT (by kernel_rfl)⟩, depT (by kernel_rfl)⟩, depT (by kernel_rfl)⟩, depT (by kernel_rfl)⟩, depT (by kernel_rfl)⟩, depT (by kernel_rfl)⟩, depT (by kernel_rfl)⟩, depT (by kernel_rfl)⟩, depT (by kernel_rfl)⟩, depT (by kernel_rfl)⟩) ?_
  generalize hp73 : fresh w71 = p73 at h ⊢
  generalize hw74 : push w71 3 [.int .i64 x64, .int .i64 x72] = w74 at h ⊢
  try dsimp only at h
  refine WQ_call rfl gd0 (o_call Try.call24 (argCons rfl argNil) _) rfl (h.mono ?_)
  rintro _ w75 ⟨t76, rfl, h⟩
  refine ⟨⟨⟨⟨⟨⟨⟨⟨⟨⟨⟨⟨⟨trivial, depT (by kernel_rfl)⟩, depT (by kernel_rfl)⟩, depT (by kernel_rfl)⟩, depT (by kernel_rfl)⟩, depT (by kernel_rfl)⟩, depT (by kernel_rfl)⟩, depT (by kernel_rfl)⟩, depT (by kernel_rfl)⟩, depT (by kernel_rfl)⟩, depT (by kernel_rfl)⟩, depT (by kernel_rfl)⟩, depT (by kernel_rfl)⟩, ?_⟩
  refine WQ_val rfl gd0 (o_assign (v := .int .i64 t76) rfl) rfl ?_
  refine WQ_nil ?_
  refine nrm ?_
  refine WC_ret ?_
  refine rtE ?_
  exact gv1 rfl rfl h

def F24_b1 (vals_n2 : Nat) (vals_a1 : Option Addr) (t9 : Int) (w10 : World) (k : Value → World → Prop) (nx10 : Int → World → Prop) : Prop :=
  if t9 < (vals_n2 : Int) then
  ∃ (p15 : Addr), vals_a1 = some p15 ∧ (0 : Int) ≤ t9 ∧ t9 < (vals_n2 : Int) ∧ ∃ (val17 : Int), w10.cell? (p15.add t9.toNat) = some (.int .i64 val17) ∧ if val17 ≠ 0 then
    k (.int .i64 val17) w10
  else
    nx10 (IntKind.i64.wrap (t9 + 1)) w10
else
  k (.int .i64 0) w10
/-- cmp.Or int  -/
def F24 (vals_a1 : Option Addr) (vals_n2 : Nat) (vals_c3 : Nat) (w4 : World) (k : Value → World → Prop) : Prop :=
  LoopP (fun (s : Int) w' nx' => F24_b1 vals_n2 vals_a1 s w' k (fun x0 w => nx' x0 w)) 0 w4
set_option maxRecDepth 100000 in
set_option maxHeartbeats 2000000 in
theorem w24 (vals_a1 : Option Addr) (vals_n2 : Nat) (vals_c3 : Nat) (w4 : World) (k : Value → World → Prop) (h : F24 vals_a1 vals_n2 vals_c3 w4 k) : Does Try.prog 24 #[.slice vals_a1 vals_n2 vals_c3] w4 k := by
  refine enter 18 Try.func24 rfl rfl rfl ?_
  intro ρ hρ
  have e0 := hρ 0 _ rfl
  unfold F24 at h
  refine WC_seq ?_
  refine WC_region ?_
  refine WL_val gd0 ((o_assign (v := .int .i64 0) rfl) _) rfl ?_
  refine WL_nil ?_
  refine nrm ?_
  refine WC_seq ?_
  refine WC_region ?_
  refine WL_val gd0 ((o_assign (v := .int .i64 0) rfl) _) rfl ?_
  refine WL_nil ?_
  refine nrm ?_
  refine WC_seq ?_
  refine WC_seq ?_
  refine WC_region ?_
  refine WL_val gd0 ((o_move (v := .slice vals_a1 vals_n2 vals_c3) (by exact e0)) _) rfl ?_
  refine WL_val gd0 ((o_len Try.underlying28 rfl) _) rfl ?_
  refine WL_val gd0 ((o_move (v := .int .i64 0) rfl) _) rfl ?_
  refine WL_nil ?_
  refine nrm ?_
  refine WC_block ?_
  obtain ⟨J10, ⟨n10, h0⟩, hr10⟩ := h
  refine WC_loop (fun n ρ w' => ∃ (t9 : Int), ρ 8 = .int .i64 t9 ∧ ρ 3 = .int .i64 0 ∧ ρ 6 = .slice vals_a1 vals_n2 vals_c3 ∧ ρ 7 = .int .i64 (vals_n2 : Int) ∧ J10 n t9 w') ⟨n10, _, rfl, rfl, rfl, rfl, h0⟩ ?_
  rintro n10 ρ w10 ⟨t9, e8_8, e3_5, e6_6, e7_7, h⟩
  have h : F24_b1 vals_n2 vals_a1 t9 w10 k (fun x0 w => ∃ m, m < n10 ∧ J10 m x0 w) := hr10 n10 t9 w10 h
  unfold F24_b1 at h
  refine WC_seq ?_
  refine WC_region ?_
  refine WL_val gd0 ((o_lss (by exact e8_8) (by exact e7_7)) _) rfl ?_
  refine WL_nil ?_
  refine nrm ?_
  refine WC_seq ?_
  refine WC_cond (t := (decide (t9 < (vals_n2 : Int)))) rfl (fun hb12 => ?_) (fun hb12 => ?_)
  · rw [if_pos (of_decide_eq_true hb12)] at h
    refine WC_skip ?_
    refine nrm ?_
    refine WC_seq ?_
    refine WC_block ?_
    refine WC_seq ?_
    refine WC_region ?_
    obtain ⟨p15, q16, h⟩ := h
    obtain ⟨l13, u14, h⟩ := h
    refine WL_val gd0 ((o_indexAddr1 Try.underlying28 Try.sizeOf3 (by exact (Eq.trans e6_6 (congrArg (fun z => Value.slice z vals_n2 vals_c3) q16))) (by exact e8_8) l13 u14) _) rfl ?_
    obtain ⟨val17, hc18, h⟩ := h
    refine WL_val gd0 (o_load Try.isAgg3 rfl hc18) rfl ?_
    refine WL_val gd0 ((o_assign (v := .int .i64 val17) rfl) _) rfl ?_
    refine WL_nil ?_
    refine nrm ?_
    refine WC_seq ?_
    refine WC_region ?_
    refine WL_val gd0 ((o_move (v := .int .i64 val17) rfl) _) rfl ?_
    refine WL_val gd0 ((o_move (v := .int .i64 0) (by exact e3_5)) _) rfl ?_
    refine WL_val gd0 ((o_neq rfl rfl) _) rfl ?_
    refine WL_nil ?_
    refine nrm ?_
    refine WC_cond (t := (decide (val17 ≠ 0))) rfl (fun hb19 => ?_) (fun hb19 => ?_)
    · rw [if_pos (of_decide_eq_true hb19)] at h
      refine WC_seq ?_
      refine WC_region ?_
      refine WL_val gd0 ((o_move (v := .int .i64 val17) rfl) _) rfl ?_
      refine WL_val gd0 ((o_assign (v := .int .i64 val17) rfl) _) rfl ?_
      refine WL_nil ?_
      refine nrm ?_
      refine WC_ret ?_
      refine rtB ?_
      refine rtT ?_
      refine rtT ?_
      refine rtB ?_
      refine rtT ?_
      refine rtE ?_
      exact gv1 rfl rfl h
    · rw [if_neg (of_decide_eq_false hb19)] at h
      refine WC_skip ?_
      refine nrmB ?_
      refine nrm ?_
      refine WC_region ?_
      refine WL_val gd0 ((o_add (by exact e8_8) rfl) _) rfl ?_
      refine WL_val gd0 ((o_move (v := .int .i64 (IntKind.i64.wrap (t9 + 1))) rfl) _) rfl ?_
      refine WL_nil ?_
      refine nrm ?_
      obtain ⟨m11, hm11, h⟩ := h
      exact ⟨m11, hm11, _, rfl, e3_5, e6_6, e7_7, h⟩
  · rw [if_neg (of_decide_eq_false hb12)] at h
    refine WC_exit ?_
    refine exT ?_
    refine exT ?_
    refine exB ?_
    refine nrm ?_
    refine WC_seq ?_
    refine WC_region ?_
    refine WL_val gd0 ((o_move (v := .int .i64 0) (by exact e3_5)) _) rfl ?_
    refine WL_val gd0 ((o_assign (v := .int .i64 0) rfl) _) rfl ?_
    refine WL_nil ?_
    refine nrm ?_
    refine WC_ret ?_
    refine rtE ?_
    exact gv1 rfl rfl h

def F25_b1 (l_n2 : Nat) (l_a1 : Option Addr) (n4 : Int) (i9 : Int) (w10 : World) (k : Value → World → Prop) (nx10 : Int → World → Prop) : Prop :=
  if i9 < (l_n2 : Int) then
  ∃ (p15 : Addr), l_a1 = some p15 ∧ (0 : Int) ≤ i9 ∧ i9 < (l_n2 : Int) ∧ ∃ (x17 : Int), w10.cell? (p15.add i9.toNat) = some (.int .i64 x17) ∧ if x17 = n4 then
    k (.bool true) w10
  else
    nx10 (IntKind.i64.wrap (i9 + 1)) w10
else
  k (.bool false) w10
/-- spacecraft spacecraftref22.has -/
def F25 (l_a1 : Option Addr) (l_n2 : Nat) (l_c3 : Nat) (n4 : Int) (w5 : World) (k : Value → World → Prop) : Prop :=
  LoopP (fun (s : Int) w' nx' => F25_b1 l_n2 l_a1 n4 s w' k (fun x0 w => nx' x0 w)) 0 w5
set_option maxRecDepth 100000 in
set_option maxHeartbeats 2000000 in
theorem w25 (l_a1 : Option Addr) (l_n2 : Nat) (l_c3 : Nat) (n4 : Int) (w5 : World) (k : Value → World → Prop) (h : F25 l_a1 l_n2 l_c3 n4 w5 k) : Does Try.prog 25 #[.slice l_a1 l_n2 l_c3, .int .i64 n4] w5 k := by
  refine enter 18 Try.func25 rfl rfl rfl ?_
  intro ρ hρ
  have e0 := hρ 0 _ rfl
  have e1 := hρ 1 _ rfl
  unfold F25 at h
  refine WC_seq ?_
  refine WC_region ?_
  refine WL_val gd0 ((o_assign (v := .bool false) rfl) _) rfl ?_
  refine WL_nil ?_
  refine nrm ?_
  refine WC_seq ?_
  refine WC_seq ?_
  refine WC_region ?_
  refine WL_val gd0 ((o_assign (v := .int .i64 0) rfl) _) rfl ?_
  refine WL_nil ?_
  refine nrm ?_
  refine WC_block ?_
  obtain ⟨J10, ⟨n10, h0⟩, hr10⟩ := h
  refine WC_loop (fun n ρ w' => ∃ (i9 : Int), ρ 5 = .int .i64 i9 ∧ ρ 0 = .slice l_a1 l_n2 l_c3 ∧ ρ 1 = .int .i64 n4 ∧ J10 n i9 w') ⟨n10, _, rfl, e0, e1, h0⟩ ?_
  rintro n10 ρ w10 ⟨i9, e5_8, e0_6, e1_7, h⟩
  have h : F25_b1 l_n2 l_a1 n4 i9 w10 k (fun x0 w => ∃ m, m < n10 ∧ J10 m x0 w) := hr10 n10 i9 w10 h
  unfold F25_b1 at h
  refine WC_seq ?_
  refine WC_seq ?_
  refine WC_region ?_
  refine WL_val gd0 ((o_move (v := .int .i64 i9) (by exact e5_8)) _) rfl ?_
  refine WL_val gd0 ((o_move (v := .slice l_a1 l_n2 l_c3) (by exact e0_6)) _) rfl ?_
  refine WL_val gd0 ((o_len Try.underlying28 rfl) _) rfl ?_
  refine WL_val gd0 ((o_lss rfl rfl) _) rfl ?_
  refine WL_nil ?_
  refine nrm ?_
  refine WC_cond (t := (decide (i9 < (l_n2 : Int)))) rfl (fun hb12 => ?_) (fun hb12 => ?_)
  · rw [if_pos (of_decide_eq_true hb12)] at h
    refine WC_skip ?_
    refine nrm ?_
    refine WC_seq ?_
    refine WC_block ?_
    refine WC_seq ?_
    refine WC_region ?_
    refine WL_val gd0 ((o_move (v := .slice l_a1 l_n2 l_c3) (by exact e0_6)) _) rfl ?_
    refine WL_val gd0 ((o_move (v := .int .i64 i9) (by exact e5_8)) _) rfl ?_
    obtain ⟨p15, q16, h⟩ := h
    obtain ⟨l13, u14, h⟩ := h
    refine WL_val gd0 ((o_indexAddr1 Try.underlying28 Try.sizeOf3 (by exact (congrArg (fun z => Value.slice z l_n2 l_c3) q16)) rfl l13 u14) _) rfl ?_
    obtain ⟨x17, hc18, h⟩ := h
    refine WL_val gd0 (o_load Try.isAgg3 rfl hc18) rfl ?_
    refine WL_val gd0 ((o_move (v := .int .i64 n4) (by exact e1_7)) _) rfl ?_
    refine WL_val gd0 ((o_eql rfl rfl) _) rfl ?_
    refine WL_nil ?_
    refine nrm ?_
    refine WC_cond (t := (decide (x17 = n4))) rfl (fun hb19 => ?_) (fun hb19 => ?_)
    · rw [if_pos (of_decide_eq_true hb19)] at h
      refine WC_seq ?_
      refine WC_region ?_
      refine WL_val gd0 ((o_assign (v := .bool true) rfl) _) rfl ?_
      refine WL_nil ?_
      refine nrm ?_
      refine WC_ret ?_
      refine rtB ?_
      refine rtT ?_
      refine rtT ?_
      refine rtB ?_
      refine rtT ?_
      refine rtE ?_
      exact gv1 rfl rfl h
    · rw [if_neg (of_decide_eq_false hb19)] at h
      refine WC_skip ?_
      refine nrmB ?_
      refine nrm ?_
      refine WC_region ?_
      refine WL_val gd0 ((o_move (v := .int .i64 i9) (by exact e5_8)) _) rfl ?_
      refine WL_val gd0 ((o_add rfl rfl) _) rfl ?_
      refine WL_val gd0 ((o_assign (v := .int .i64 (IntKind.i64.wrap (i9 + 1))) rfl) _) rfl ?_
      refine WL_nil ?_
      refine nrm ?_
      obtain ⟨m11, hm11, h⟩ := h
      exact ⟨m11, hm11, _, rfl, e0_6, e1_7, h⟩
  · rw [if_neg (of_decide_eq_false hb12)] at h
    refine WC_exit ?_
    refine exT ?_
    refine exT ?_
    refine exB ?_
    refine nrm ?_
    refine WC_seq ?_
    refine WC_region ?_
    refine WL_val gd0 ((o_assign (v := .bool false) rfl) _) rfl ?_
    refine WL_nil ?_
    refine nrm ?_
    refine WC_ret ?_
    refine rtE ?_
    exact gv1 rfl rfl h

def F26c27_b1 (s_n2 : Nat) (s_a1 : Option Addr) (q4 : Option Addr) (t10 : Int) (w11 : World) (k : Value → World → Prop) (nx11 : Int → World → Prop) : Prop :=
  if t10 < (s_n2 : Int) then
  ∃ (p16 : Addr), s_a1 = some p16 ∧ (0 : Int) ≤ t10 ∧ t10 < (s_n2 : Int) ∧ ∃ (x18 x19 x20 x21 x22 : Int), Cells w11 (p16.add (t10.toNat * 5)) 0 [.int .i64 x18, .int .i64 x19, .int .i64 x20, .int .i64 x21, .int .i64 x22] ∧ Does Try.prog 27 #[.agg #[.int .i64 x18, .int .i64 x19, .int .i64 x20, .int .i64 x21, .int .i64 x22], .pointer q4] w11 (fun v w24 => ∃ (x25 : Bool), v = .bool x25 ∧ if x25 = true then
    k (.int .i64 t10) w24
  else
    nx11 (IntKind.i64.wrap (t10 + 1)) w24)
else
  k (.int .i64 (-1)) w11
/-- slices.IndexFunc   spacecraft mux.channel,spacecraft mux.channel  -/
def F26c27 (s_a1 : Option Addr) (s_n2 : Nat) (s_c3 : Nat) (q4 : Option Addr) (w5 : World) (k : Value → World → Prop) : Prop :=
  LoopP (fun (s : Int) w' nx' => F26c27_b1 s_n2 s_a1 q4 s w' k (fun x0 w => nx' x0 w)) 0 w5
set_option maxRecDepth 100000 in
set_option maxHeartbeats 2000000 in
theorem w26c27 (s_a1 : Option Addr) (s_n2 : Nat) (s_c3 : Nat) (q4 : Option Addr) (w5 : World) (k : Value → World → Prop) (h : F26c27 s_a1 s_n2 s_c3 q4 w5 k) : Does Try.prog 26 #[.slice s_a1 s_n2 s_c3, .func (.func 27) #[] #[.pointer q4]] w5 k := by
  refine enter 19 Try.func26 rfl rfl rfl ?_
  intro ρ hρ
  have e0 := hρ 0 _ rfl
  have e1 := hρ 1 _ rfl
  unfold F26c27 at h
  refine WC_seq ?_
  refine WC_region ?_
  refine WL_val gd0 ((o_assign (v := .int .i64 0) rfl) _) rfl ?_
  refine WL_nil ?_
  refine nrm ?_
  refine WC_seq ?_
  refine WC_seq ?_
  refine WC_region ?_
  refine WL_val gd0 ((o_move (v := .slice s_a1 s_n2 s_c3) (by exact e0)) _) rfl ?_
  refine WL_val gd0 ((o_len Try.underlying48 rfl) _) rfl ?_
  refine WL_val gd0 ((o_move (v := .int .i64 0) rfl) _) rfl ?_
  refine WL_nil ?_
  refine nrm ?_
  refine WC_block ?_
  obtain ⟨J11, ⟨n11, h0⟩, hr11⟩ := h
  refine WC_loop (fun n ρ w' => ∃ (t10 : Int), ρ 8 = .int .i64 t10 ∧ ρ 0 = .slice s_a1 s_n2 s_c3 ∧ ρ 1 = .func (.func 27) #[] #[.pointer q4] ∧ ρ 7 = .int .i64 (s_n2 : Int) ∧ J11 n t10 w') ⟨n11, _, rfl, e0, e1, rfl, h0⟩ ?_
  rintro n11 ρ w11 ⟨t10, e8_9, e0_6, e1_7, e7_8, h⟩
  have h : F26c27_b1 s_n2 s_a1 q4 t10 w11 k (fun x0 w => ∃ m, m < n11 ∧ J11 m x0 w) := hr11 n11 t10 w11 h
  unfold F26c27_b1 at h
  refine WC_seq ?_
  refine WC_region ?_
  refine WL_val gd0 ((o_lss (by exact e8_9) (by exact e7_8)) _) rfl ?_
  refine WL_nil ?_
  refine nrm ?_
  refine WC_seq ?_
  refine WC_cond (t := (decide (t10 < (s_n2 : Int)))) rfl (fun hb13 => ?_) (fun hb13 => ?_)
  · rw [if_pos (of_decide_eq_true hb13)] at h
    refine WC_skip ?_
    refine nrm ?_
    refine WC_seq ?_
    refine WC_block ?_
    refine WC_seq ?_
    refine WC_region ?_
    refine WL_val gd0 ((o_move (v := .int .i64 t10) (by exact e8_9)) _) rfl ?_
    refine WL_val gd0 ((o_assign (v := .int .i64 t10) rfl) _) rfl ?_
    refine WL_nil ?_
    refine nrm ?_
    refine WC_seq ?_
    refine WC_region ?_
    refine WL_val gd0 ((o_move (v := .func (.func 27) #[] #[.pointer q4]) (by exact e1_7)) _) rfl ?_
    refine WL_val gd0 ((o_move (v := .slice s_a1 s_n2 s_c3) (by exact e0_6)) _) rfl ?_
    refine WL_val gd0 ((o_move (v := .int .i64 t10) rfl) _) rfl ?_
    obtain ⟨p16, q17, h⟩ := h
    obtain ⟨l14, u15, h⟩ := h
    refine WL_val gd0 ((o_indexAddr Try.underlying48 Try.sizeOf52 (by exact (congrArg (fun z => Value.slice z s_n2 s_c3) q17)) rfl l14 u15) _) rfl ?_
    obtain ⟨x18, x19, x20, x21, x22, hc23, h⟩ := h
    refine WL_val gd0 (o_loadAgg (vs := [.int .i64 x18, .int .i64 x19, .int .i64 x20, .int .i64 x21, .int .i64 x22]) Try.isAgg52 Try.sizeOf52 rfl hc23) rfl ?_
    refine WL_call gd0 (o_callVal (bs := []) (cs := [.pointer q4]) Try.call27 rfl (argCons rfl argNil) _) rfl (h.mono ?_)
    rintro _ w24 ⟨x25, rfl, h⟩
    refine WL_nil ?_
    refine nrm ?_
    refine WC_cond (t := x25) rfl (fun hb26 => ?_) (fun hb26 => ?_)
    · rw [if_pos hb26] at h
      refine WC_seq ?_
      refine WC_region ?_
      refine WL_val gd0 ((o_move (v := .int .i64 t10) rfl) _) rfl ?_
      refine WL_val gd0 ((o_assign (v := .int .i64 t10) rfl) _) rfl ?_
      refine WL_nil ?_
      refine nrm ?_
      refine WC_ret ?_
      refine rtB ?_
      refine rtT ?_
      refine rtT ?_
      refine rtB ?_
      refine rtT ?_
      refine rtE ?_
      exact gv1 rfl rfl h
    · rw [if_neg (neT hb26)] at h
      refine WC_skip ?_
      refine nrmB ?_
      refine nrm ?_
      refine WC_region ?_
      refine WL_val gd0 ((o_add (by exact e8_9) rfl) _) rfl ?_
      refine WL_val gd0 ((o_move (v := .int .i64 (IntKind.i64.wrap (t10 + 1))) rfl) _) rfl ?_
      refine WL_nil ?_
      refine nrm ?_
      obtain ⟨m12, hm12, h⟩ := h
      exact ⟨m12, hm12, _, rfl, e0_6, e1_7, e7_8, h⟩
  · rw [if_neg (of_decide_eq_false hb13)] at h
    refine WC_exit ?_
    refine exT ?_
    refine exT ?_
    refine exB ?_
    refine nrm ?_
    refine WC_seq ?_
    refine WC_region ?_
    refine WL_val gd0 ((o_assign (v := .int .i64 (-1)) rfl) _) rfl ?_
    refine WL_nil ?_
    refine nrm ?_
    refine WC_ret ?_
    refine rtE ?_
    exact gv1 rfl rfl h

/-- (*spacecraft mux.Mux).find 1 -/
def F27 (c1 : Int) (c2 : Int) (c3 : Int) (c4 : Int) (c5 : Int) (t6 : Option Addr) (w7 : World) (k : Value → World → Prop) : Prop :=
  New w7 52 [.int .i64 c1, .int .i64 c2, .int .i64 c3, .int .i64 c4, .int .i64 c5] (fun p8 w9 => ∃ (x10 : Int), w9.cell? p8 = some (.int .i64 x10) ∧ ∃ (p12 : Addr), t6 = some p12 ∧ ∃ (x14 : Int), w9.cell? p12 = some (.int .i64 x14) ∧ k (.bool (decide (x10 = x14))) w9)
set_option maxRecDepth 100000 in
set_option maxHeartbeats 2000000 in
theorem w27 (c1 : Int) (c2 : Int) (c3 : Int) (c4 : Int) (c5 : Int) (t6 : Option Addr) (w7 : World) (k : Value → World → Prop) (h : F27 c1 c2 c3 c4 c5 t6 w7 k) : Does Try.prog 27 #[.agg #[.int .i64 c1, .int .i64 c2, .int .i64 c3, .int .i64 c4, .int .i64 c5], .pointer t6] w7 k := by
  refine enter 9 Try.func27 rfl rfl rfl ?_
  intro ρ hρ
  have e0 := hρ 0 _ rfl
  have e1 := hρ 1 _ rfl
  unfold F27 at h
  refine WC_seq ?_
  refine WC_region ?_
  have h := New.out h
  refine WL_val gd0 (o_box (v := .agg #[.int .i64 c1, .int .i64 c2, .int .i64 c3, .int .i64 c4, .int .i64 c5]) (cs := [.int .i64 c1, .int .i64 c2, .int .i64 c3, .int .i64 c4, .int .i64 c5]) (by exact e0) rfl) rfl ?_
  generalize hp8 : fresh w7 = p8 at h ⊢
  generalize hw9 : push w7 52 [.int .i64 c1, .int .i64 c2, .int .i64 c3, .int .i64 c4, .int .i64 c5] = w9 at h ⊢
  try dsimp only at h
  refine WL_val gd0 ((o_assign (v := .bool false) rfl) _) rfl ?_
  refine WL_nil ?_
  refine nrm ?_
  refine WC_seq ?_
  refine WC_region ?_
  refine WL_val gd0 ((o_fieldAddr0 Try.underlying52 rfl Try.sizeOf35 rfl rfl rfl) _) rfl ?_
  refine WL_val gd0 ((o_fieldAddr0 Try.underlying35 rfl Try.sizeOf3 rfl rfl rfl) _) rfl ?_
  obtain ⟨x10, hc11, h⟩ := h
  refine WL_val gd0 (o_load Try.isAgg3 rfl hc11) rfl ?_
  obtain ⟨p12, q13, h⟩ := h
  obtain ⟨x14, hc15, h⟩ := h
  refine WL_val gd0 (o_load Try.isAgg3 (by exact (Eq.trans e1 (congrArg Value.pointer q13))) hc15) rfl ?_
  refine WL_val gd0 ((o_eql rfl rfl) _) rfl ?_
  refine WL_val gd0 ((o_assign (v := .bool (decide (x10 = x14))) rfl) _) rfl ?_
  refine WL_nil ?_
  refine nrm ?_
  refine WC_ret ?_
  refine rtE ?_
  exact gv1 rfl rfl h

def F28_b1 (s_n2 : Nat) (s_a1 : Option Addr) (v4 : Int) (t10 : Int) (w11 : World) (k : Value → World → Prop) (nx11 : Int → World → Prop) : Prop :=
  if t10 < (s_n2 : Int) then
  ∃ (p16 : Addr), s_a1 = some p16 ∧ (0 : Int) ≤ t10 ∧ t10 < (s_n2 : Int) ∧ ∃ (x18 : Int), w11.cell? (p16.add t10.toNat) = some (.int .i64 x18) ∧ if v4 = x18 then
    k (.int .i64 t10) w11
  else
    nx11 (IntKind.i64.wrap (t10 + 1)) w11
else
  k (.int .i64 (-1)) w11
/-- slices.Index   int,int  -/
def F28 (s_a1 : Option Addr) (s_n2 : Nat) (s_c3 : Nat) (v4 : Int) (w5 : World) (k : Value → World → Prop) : Prop :=
  LoopP (fun (s : Int) w' nx' => F28_b1 s_n2 s_a1 v4 s w' k (fun x0 w => nx' x0 w)) 0 w5
set_option maxRecDepth 100000 in
set_option maxHeartbeats 2000000 in
theorem w28 (s_a1 : Option Addr) (s_n2 : Nat) (s_c3 : Nat) (v4 : Int) (w5 : World) (k : Value → World → Prop) (h : F28 s_a1 s_n2 s_c3 v4 w5 k) : Does Try.prog 28 #[.slice s_a1 s_n2 s_c3, .int .i64 v4] w5 k := by
  refine enter 19 Try.func28 rfl rfl rfl ?_
  intro ρ hρ
  have e0 := hρ 0 _ rfl
  have e1 := hρ 1 _ rfl
  unfold F28 at h
  refine WC_seq ?_
  refine WC_region ?_
  refine WL_val gd0 ((o_assign (v := .int .i64 0) rfl) _) rfl ?_
  refine WL_nil ?_
  refine nrm ?_
  refine WC_seq ?_
  refine WC_seq ?_
  refine WC_region ?_
  refine WL_val gd0 ((o_move (v := .slice s_a1 s_n2 s_c3) (by exact e0)) _) rfl ?_
  refine WL_val gd0 ((o_len Try.underlying28 rfl) _) rfl ?_
  refine WL_val gd0 ((o_move (v := .int .i64 0) rfl) _) rfl ?_
  refine WL_nil ?_
  refine nrm ?_
  refine WC_block ?_
  obtain ⟨J11, ⟨n11, h0⟩, hr11⟩ := h
  refine WC_loop (fun n ρ w' => ∃ (t10 : Int), ρ 8 = .int .i64 t10 ∧ ρ 0 = .slice s_a1 s_n2 s_c3 ∧ ρ 1 = .int .i64 v4 ∧ ρ 7 = .int .i64 (s_n2 : Int) ∧ J11 n t10 w') ⟨n11, _, rfl, e0, e1, rfl, h0⟩ ?_
  rintro n11 ρ w11 ⟨t10, e8_9, e0_6, e1_7, e7_8, h⟩
  have h : F28_b1 s_n2 s_a1 v4 t10 w11 k (fun x0 w => ∃ m, m < n11 ∧ J11 m x0 w) := hr11 n11 t10 w11 h
  unfold F28_b1 at h
  refine WC_seq ?_
  refine WC_region ?_
  refine WL_val gd0 ((o_lss (by exact e8_9) (by exact e7_8)) _) rfl ?_
  refine WL_nil ?_
  refine nrm ?_
  refine WC_seq ?_
  refine WC_cond (t := (decide (t10 < (s_n2 : Int)))) rfl (fun hb13 => ?_) (fun hb13 => ?_)
  · rw [if_pos (of_decide_eq_true hb13)] at h
    refine WC_skip ?_
    refine nrm ?_
    refine WC_seq ?_
    refine WC_block ?_
    refine WC_seq ?_
    refine WC_region ?_
    refine WL_val gd0 ((o_move (v := .int .i64 t10) (by exact e8_9)) _) rfl ?_
    refine WL_val gd0 ((o_assign (v := .int .i64 t10) rfl) _) rfl ?_
    refine WL_nil ?_
    refine nrm ?_
    refine WC_seq ?_
    refine WC_region ?_
    refine WL_val gd0 ((o_move (v := .int .i64 v4) (by exact e1_7)) _) rfl ?_
    refine WL_val gd0 ((o_move (v := .slice s_a1 s_n2 s_c3) (by exact e0_6)) _) rfl ?_
    refine WL_val gd0 ((o_move (v := .int .i64 t10) rfl) _) rfl ?_
    obtain ⟨p16, q17, h⟩ := h
    obtain ⟨l14, u15, h⟩ := h
    refine WL_val gd0 ((o_indexAddr1 Try.underlying28 Try.sizeOf3 (by exact (congrArg (fun z => Value.slice z s_n2 s_c3) q17)) rfl l14 u15) _) rfl ?_
    obtain ⟨x18, hc19, h⟩ := h
    refine WL_val gd0 (o_load Try.isAgg3 rfl hc19) rfl ?_
    refine WL_val gd0 ((o_eql rfl rfl) _) rfl ?_
    refine WL_nil ?_
    refine nrm ?_
    refine WC_cond (t := (decide (v4 = x18))) rfl (fun hb20 => ?_) (fun hb20 => ?_)
    · rw [if_pos (of_decide_eq_true hb20)] at h
      refine WC_seq ?_
      refine WC_region ?_
      refine WL_val gd0 ((o_move (v := .int .i64 t10) rfl) _) rfl ?_
      refine WL_val gd0 ((o_assign (v := .int .i64 t10) rfl) _) rfl ?_
      refine WL_nil ?_
      refine nrm ?_
      refine WC_ret ?_
      refine rtB ?_
      refine rtT ?_
      refine rtT ?_
      refine rtB ?_
      refine rtT ?_
      refine rtE ?_
      exact gv1 rfl rfl h
    · rw [if_neg (of_decide_eq_false hb20)] at h
      refine WC_skip ?_
      refine nrmB ?_
      refine nrm ?_
      refine WC_region ?_
      refine WL_val gd0 ((o_add (by exact e8_9) rfl) _) rfl ?_
      refine WL_val gd0 ((o_move (v := .int .i64 (IntKind.i64.wrap (t10 + 1))) rfl) _) rfl ?_
      refine WL_nil ?_
      refine nrm ?_
      obtain ⟨m12, hm12, h⟩ := h
      exact ⟨m12, hm12, _, rfl, e0_6, e1_7, e7_8, h⟩
  · rw [if_neg (of_decide_eq_false hb13)] at h
    refine WC_exit ?_
    refine exT ?_
    refine exT ?_
    refine exB ?_
    refine nrm ?_
    refine WC_seq ?_
    refine WC_region ?_
    refine WL_val gd0 ((o_assign (v := .int .i64 (-1)) rfl) _) rfl ?_
    refine WL_nil ?_
    refine nrm ?_
    refine WC_ret ?_
    refine rtE ?_
    exact gv1 rfl rfl h

/-- cmp.isNaN int  -/
def F29 (x1 : Int) (w2 : World) (k : Value → World → Prop) : Prop :=
  k (.bool (decide (x1 ≠ x1))) w2
set_option maxRecDepth 100000 in
set_option maxHeartbeats 2000000 in
theorem w29 (x1 : Int) (w2 : World) (k : Value → World → Prop) (h : F29 x1 w2 k) : Does Try.prog 29 #[.int .i64 x1] w2 k := by
  refine enter 6 Try.func29 rfl rfl rfl ?_
  intro ρ hρ
  have e0 := hρ 0 _ rfl
  unfold F29 at h
  refine WC_seq ?_
  refine WC_region ?_
  refine WL_val gd0 ((o_assign (v := .bool false) rfl) _) rfl ?_
  refine WL_nil ?_
  refine nrm ?_
  refine WC_seq ?_
  refine WC_region ?_
  refine WL_val gd0 ((o_move (v := .int .i64 x1) (by exact e0)) _) rfl ?_
  refine WL_val gd0 ((o_move (v := .int .i64 x1) (by exact e0)) _) rfl ?_
  refine WL_val gd0 ((o_neq rfl rfl) _) rfl ?_
  refine WL_val gd0 ((o_assign (v := .bool (decide (x1 ≠ x1))) rfl) _) rfl ?_
  refine WL_nil ?_
  refine nrm ?_
  refine WC_ret ?_
  refine rtE ?_
  exact gv1 rfl rfl h

def F30c22_b1 (s_n2 : Nat) (s_a1 : Option Addr) (q4 : Option Addr) (q5 : Option Addr) (t11 : Int) (w12 : World) (k : Value → World → Prop) (nx12 : Int → World → Prop) : Prop :=
  if t11 < (s_n2 : Int) then
  ∃ (p17 : Addr), s_a1 = some p17 ∧ (0 : Int) ≤ t11 ∧ t11 < (s_n2 : Int) ∧ ∃ (x19 : Int), w12.cell? (p17.add t11.toNat) = some (.int .i64 x19) ∧ Does Try.prog 22 #[.int .i64 x19, .pointer q4, .pointer q5] w12 (fun v w21 => ∃ (x22 : Bool), v = .bool x22 ∧ if x22 = true then
    k (.int .i64 t11) w21
  else
    nx12 (IntKind.i64.wrap (t11 + 1)) w21)
else
  k (.int .i64 (-1)) w12
/-- slices.IndexFunc   int,int  -/
def F30c22 (s_a1 : Option Addr) (s_n2 : Nat) (s_c3 : Nat) (q4 : Option Addr) (q5 : Option Addr) (w6 : World) (k : Value → World → Prop) : Prop :=
  LoopP (fun (s : Int) w' nx' => F30c22_b1 s_n2 s_a1 q4 q5 s w' k (fun x0 w => nx' x0 w)) 0 w6
set_option maxRecDepth 100000 in
set_option maxHeartbeats 2000000 in
theorem w30c22 (s_a1 : Option Addr) (s_n2 : Nat) (s_c3 : Nat) (q4 : Option Addr) (q5 : Option Addr) (w6 : World) (k : Value → World → Prop) (h : F30c22 s_a1 s_n2 s_c3 q4 q5 w6 k) : Does Try.prog 30 #[.slice s_a1 s_n2 s_c3, .func (.func 22) #[] #[.pointer q4, .pointer q5]] w6 k := by
  refine enter 19 Try.func30 rfl rfl rfl ?_
  intro ρ hρ
  have e0 := hρ 0 _ rfl
  have e1 := hρ 1 _ rfl
  unfold F30c22 at h
  refine WC_seq ?_
  refine WC_region ?_
  refine WL_val gd0 ((o_assign (v := .int .i64 0) rfl) _) rfl ?_
  refine WL_nil ?_
  refine nrm ?_
  refine WC_seq ?_
  refine WC_seq ?_
  refine WC_region ?_
  refine WL_val gd0 ((o_move (v := .slice s_a1 s_n2 s_c3) (by exact e0)) _) rfl ?_
  refine WL_val gd0 ((o_len Try.underlying28 rfl) _) rfl ?_
  refine WL_val gd0 ((o_move (v := .int .i64 0) rfl) _) rfl ?_
  refine WL_nil ?_
  refine nrm ?_
  refine WC_block ?_
  obtain ⟨J12, ⟨n12, h0⟩, hr12⟩ := h
  refine WC_loop (fun n ρ w' => ∃ (t11 : Int), ρ 8 = .int .i64 t11 ∧ ρ 0 = .slice s_a1 s_n2 s_c3 ∧ ρ 1 = .func (.func 22) #[] #[.pointer q4, .pointer q5] ∧ ρ 7 = .int .i64 (s_n2 : Int) ∧ J12 n t11 w') ⟨n12, _, rfl, e0, e1, rfl, h0⟩ ?_
  rintro n12 ρ w12 ⟨t11, e8_10, e0_7, e1_8, e7_9, h⟩
  have h : F30c22_b1 s_n2 s_a1 q4 q5 t11 w12 k (fun x0 w => ∃ m, m < n12 ∧ J12 m x0 w) := hr12 n12 t11 w12 h
  unfold F30c22_b1 at h
  refine WC_seq ?_
  refine WC_region ?_
  refine WL_val gd0 ((o_lss (by exact e8_10) (by exact e7_9)) _) rfl ?_
  refine WL_nil ?_
  refine nrm ?_
  refine WC_seq ?_
  refine WC_cond (t := (decide (t11 < (s_n2 : Int)))) rfl (fun hb14 => ?_) (fun hb14 => ?_)
  · rw [if_pos (of_decide_eq_true hb14)] at h
    refine WC_skip ?_
    refine nrm ?_
    refine WC_seq ?_
    refine WC_block ?_
    refine WC_seq ?_
    refine WC_region ?_
    refine WL_val gd0 ((o_move (v := .int .i64 t11) (by exact e8_10)) _) rfl ?_
    refine WL_val gd0 ((o_assign (v := .int .i64 t11) rfl) _) rfl ?_
    refine WL_nil ?_
    refine nrm ?_
    refine WC_seq ?_
    refine WC_region ?_
    refine WL_val gd0 ((o_move (v := .func (.func 22) #[] #[.pointer q4, .pointer q5]) (by exact e1_8)) _) rfl ?_
    refine WL_val gd0 ((o_move (v := .slice s_a1 s_n2 s_c3) (by exact e0_7)) _) rfl ?_
    refine WL_val gd0 ((o_move (v := .int .i64 t11) rfl) _) rfl ?_
    obtain ⟨p17, q18, h⟩ := h
    obtain ⟨l15, u16, h⟩ := h
    refine WL_val gd0 ((o_indexAddr1 Try.underlying28 Try.sizeOf3 (by exact (congrArg (fun z => Value.slice z s_n2 s_c3) q18)) rfl l15 u16) _) rfl ?_
    obtain ⟨x19, hc20, h⟩ := h
    refine WL_val gd0 (o_load Try.isAgg3 rfl hc20) rfl ?_
    refine WL_call gd0 (o_callVal (bs := []) (cs := [.pointer q4, .pointer q5]) Try.call22 rfl (argCons rfl argNil) _) rfl (h.mono ?_)
    rintro _ w21 ⟨x22, rfl, h⟩
    refine WL_nil ?_
    refine nrm ?_
    refine WC_cond (t := x22) rfl (fun hb23 => ?_) (fun hb23 => ?_)
    · rw [if_pos hb23] at h
      refine WC_seq ?_
      refine WC_region ?_
      refine WL_val gd0 ((o_move (v := .int .i64 t11) rfl) _) rfl ?_
      refine WL_val gd0 ((o_assign (v := .int .i64 t11) rfl) _) rfl ?_
      refine WL_nil ?_
      refine nrm ?_
      refine WC_ret ?_
      refine rtB ?_
      refine rtT ?_
      refine rtT ?_
      refine rtB ?_
      refine rtT ?_
      refine rtE ?_
      exact gv1 rfl rfl h
    · rw [if_neg (neT hb23)] at h
      refine WC_skip ?_
      refine nrmB ?_
      refine nrm ?_
      refine WC_region ?_
      refine WL_val gd0 ((o_add (by exact e8_10) rfl) _) rfl ?_
      refine WL_val gd0 ((o_move (v := .int .i64 (IntKind.i64.wrap (t11 + 1))) rfl) _) rfl ?_
      refine WL_nil ?_
      refine nrm ?_
      obtain ⟨m13, hm13, h⟩ := h
      exact ⟨m13, hm13, _, rfl, e0_7, e1_8, e7_9, h⟩
  · rw [if_neg (of_decide_eq_false hb14)] at h
    refine WC_exit ?_
    refine exT ?_
    refine exT ?_
    refine exB ?_
    refine nrm ?_
    refine WC_seq ?_
    refine WC_region ?_
    refine WL_val gd0 ((o_assign (v := .int .i64 (-1)) rfl) _) rfl ?_
    refine WL_nil ?_
    refine nrm ?_
    refine WC_ret ?_
    refine rtE ?_
    exact gv1 rfl rfl h


end Go.Proofs.Ytjjhghcaecodpaa
