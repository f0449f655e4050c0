/-
  The forms of the functions, and their walks: written by a program of this claim (gen.py) off the elaborated translation.
-/
import Derived.Test.YtcgkmmiokmbjdaaProg
import Derived.Test.YtcgkmmiokmbjdaaBase
import Derived.KernelRfl
import Derived.Test.YtcgkmmiokmbjdaaFormsP0
import Derived.Test.YtcgkmmiokmbjdaaFormsP1
namespace Go.Proofs.Ytcgkmmiokmbjdaa
open Go Go.Sh Go.Proofs
set_option linter.unusedVariables false
/-- (*spacecraft spacecraftref34.Service).Delete -/
def F31 (s1 : Option Addr) (id2 : Int) (w3 : World) (k : Value → World → Prop) : Prop :=
  Does Try.prog 46 #[.pointer s1, .int .i64 id2] w3 (fun v w4 => ∃ (r5 : Int) (r6 : Bool), v = .tuple #[.int .i64 r5, .bool r6] ∧ if (!r6) = true then
  k (.int .i64 8) w4
else
  ∃ (p8 : Addr), s1 = some p8 ∧ ∃ (x_a10 : Option Addr) (x_n11 x_c12 : Nat), w4.cell? p8 = some (.slice x_a10 x_n11 x_c12) ∧ ∃ (p16 : Addr), x_a10 = some p16 ∧ (0 : Int) ≤ r5 ∧ r5 < (x_n11 : Int) ∧ ∃ (x18 : Bool), w4.cell? ((p16.add (r5.toNat * 4)).add 2) = some (.bool x18) ∧ if x18 = true then
    k (.int .i64 12) w4
  else
    ∃ (x_a21 : Option Addr) (x_n22 x_c23 : Nat), w4.drew.cell? p8 = some (.slice x_a21 x_n22 x_c23) ∧ (0 : Int) ≤ r5 ∧ r5 ≤ (x_c23 : Int) ∧ ∃ (x_a27 : Option Addr) (x_n28 x_c29 : Nat), w4.drew.cell? p8 = some (.slice x_a27 x_n28 x_c29) ∧ (0 : Int) ≤ IntKind.i64.wrap (r5 + 1) ∧ IntKind.i64.wrap (r5 + 1) ≤ (x_n28 : Int) ∧ New w4.drew 31 [] (fun p33 w34 => w34.cell? p8 = some (.slice x_a21 x_n22 x_c23) ∧ w34.cell? p8 = some (.slice x_a27 x_n28 x_c29) ∧ ∃ (b_a37 : Option Addr) (b_n38 b_c39 : Nat) (w40 : World), (Builtin.append_ #[28, 28] 28 #[.slice (some p33) 0 0, .slice x_a21 r5.toNat x_c23]).run Try.prog w34 = .ok (.slice b_a37 b_n38 b_c39) w40 ∧ w40.cell? p8 = some (.slice x_a27 x_n28 x_c29) ∧ ∃ (b_a43 : Option Addr) (b_n44 b_c45 : Nat) (w46 : World), (Builtin.append_ #[28, 28] 28 #[.slice b_a37 b_n38 b_c39, .slice (cutA x_a27 x_c29 ((IntKind.i64.wrap (r5 + 1)).toNat) 4) (x_n28 - (IntKind.i64.wrap (r5 + 1)).toNat) (x_c29 - (IntKind.i64.wrap (r5 + 1)).toNat)]).run Try.prog w40 = .ok (.slice b_a43 b_n44 b_c45) w46 ∧ Put w46 p8 (.slice b_a43 b_n44 b_c45) (fun w48 => ∃ (x_a50 : Option Addr) (x_n51 x_c52 : Nat), w48.drew.cell? (p8.add 1) = some (.slice x_a50 x_n51 x_c52) ∧ (0 : Int) ≤ r5 ∧ r5 ≤ (x_c52 : Int) ∧ ∃ (x_a56 : Option Addr) (x_n57 x_c58 : Nat), w48.drew.cell? (p8.add 1) = some (.slice x_a56 x_n57 x_c58) ∧ (0 : Int) ≤ IntKind.i64.wrap (r5 + 1) ∧ IntKind.i64.wrap (r5 + 1) ≤ (x_n57 : Int) ∧ New w48.drew 3 [] (fun p62 w63 => w63.cell? (p8.add 1) = some (.slice x_a50 x_n51 x_c52) ∧ w63.cell? (p8.add 1) = some (.slice x_a56 x_n57 x_c58) ∧ ∃ (b_a66 : Option Addr) (b_n67 b_c68 : Nat) (w69 : World), (Builtin.append_ #[26, 26] 26 #[.slice (some p62) 0 0, .slice x_a50 r5.toNat x_c52]).run Try.prog w63 = .ok (.slice b_a66 b_n67 b_c68) w69 ∧ w69.cell? (p8.add 1) = some (.slice x_a56 x_n57 x_c58) ∧ ∃ (b_a72 : Option Addr) (b_n73 b_c74 : Nat) (w75 : World), (Builtin.append_ #[26, 26] 26 #[.slice b_a66 b_n67 b_c68, .slice (cutA x_a56 x_c58 ((IntKind.i64.wrap (r5 + 1)).toNat) 1) (x_n57 - (IntKind.i64.wrap (r5 + 1)).toNat) (x_c58 - (IntKind.i64.wrap (r5 + 1)).toNat)]).run Try.prog w69 = .ok (.slice b_a72 b_n73 b_c74) w75 ∧ Put w75 (p8.add 1) (.slice b_a72 b_n73 b_c74) (fun w77 => k (.int .i64 0) w77)))))
set_option maxRecDepth 100000 in
set_option maxHeartbeats 2000000 in
theorem w31 (s1 : Option Addr) (id2 : Int) (w3 : World) (k : Value → World → Prop) (h : F31 s1 id2 w3 k) : Does Try.prog 31 #[.pointer s1, .int .i64 id2] w3 k := by
  refine enter 61 Try.func31 rfl rfl rfl ?_
  intro ρ hρ
  have e0 := hρ 0 _ rfl
  have e1 := hρ 1 _ rfl
  unfold F31 at h
  refine WC_seq ?_
  refine WC_region ?_
  refine WL_val gd0 ((o_assign (v := .int .i64 0) rfl) _) rfl ?_
  refine WL_nil ?_
  refine nrm ?_
  refine WC_seq ?_
  refine WC_region ?_
  refine WL_val gd0 ((o_move (v := .pointer s1) (by exact e0)) _) rfl ?_
  refine WL_val gd0 ((o_move (v := .int .i64 id2) (by exact e1)) _) rfl ?_
  refine WL_call gd0 (o_call Try.call46 (argCons rfl (argCons rfl argNil)) _) rfl (h.mono ?_)
  rintro _ w4 ⟨r5, r6, rfl, h⟩
  refine WL_val gd0 ((o_move (v := .tuple #[.int .i64 r5, .bool r6]) rfl) _) rfl ?_
  refine WL_val gd0 ((o_extract (vs := [.int .i64 r5, .bool r6]) (r := .int .i64 r5) rfl rfl) _) rfl ?_
  refine WL_val gd0 ((o_extract (vs := [.int .i64 r5, .bool r6]) (r := .bool r6) rfl rfl) _) rfl ?_
  refine WL_val gd0 ((o_assign (v := .int .i64 r5) rfl) _) rfl ?_
  refine WL_val gd0 ((o_assign (v := .bool r6) rfl) _) rfl ?_
  refine WL_nil ?_
  refine nrm ?_
  refine WC_seq ?_
  refine WC_seq ?_
  refine WC_region ?_
  refine WL_val gd0 ((o_move (v := .bool r6) rfl) _) rfl ?_
  refine WL_val gd0 ((o_not rfl) _) rfl ?_
  refine WL_nil ?_
  refine nrm ?_
  refine WC_cond (t := (!r6)) rfl (fun hb7 => ?_) (fun hb7 => ?_)
  · rw [if_pos hb7] at h
    refine WC_seq ?_
    refine WC_region ?_
    refine WL_val gd0 ((o_assign (v := .int .i64 8) rfl) _) rfl ?_
    refine WL_nil ?_
    refine nrm ?_
    refine WC_ret ?_
    refine rtT ?_
    refine rtE ?_
    exact gv1 rfl rfl h
  · rw [if_neg (neT hb7)] at h
    refine WC_skip ?_
    refine nrm ?_
    refine WC_seq ?_
    refine WC_seq ?_
    refine WC_region ?_
    refine WL_val gd0 ((o_move (v := .pointer s1) (by exact e0)) _) rfl ?_
    obtain ⟨p8, q9, h⟩ := h
    refine WL_val gd0 ((o_nilCheck (by exact (congrArg Value.pointer q9))) _) rfl ?_
    refine WL_val gd0 ((o_fieldAddr0 Try.underlying50 rfl Try.sizeOf28 rfl rfl rfl) _) rfl ?_
    obtain ⟨x_a10, x_n11, x_c12, hc13, h⟩ := h
    refine WL_val gd0 (o_load Try.isAgg28 rfl hc13) rfl ?_
    refine WL_val gd0 ((o_move (v := .int .i64 r5) rfl) _) rfl ?_
    obtain ⟨p16, q17, h⟩ := h
    obtain ⟨l14, u15, h⟩ := h
    refine WL_val gd0 ((o_indexAddr Try.underlying28 Try.sizeOf31 (by exact (congrArg (fun z => Value.slice z x_n11 x_c12) q17)) rfl l14 u15) _) rfl ?_
    refine WL_val gd0 ((o_fieldAddr 2 Try.underlying31 rfl Try.sizeOf4 rfl rfl rfl) _) rfl ?_
    obtain ⟨x18, hc19, h⟩ := h
    refine WL_val gd0 (o_load Try.isAgg4 rfl hc19) rfl ?_
    refine WL_nil ?_
    refine nrm ?_
    refine WC_cond (t := x18) rfl (fun hb20 => ?_) (fun hb20 => ?_)
    · rw [if_pos hb20] at h
      refine WC_seq ?_
      refine WC_region ?_
      refine WL_val gd0 ((o_assign (v := .int .i64 12) rfl) _) rfl ?_
      refine WL_nil ?_
      refine nrm ?_
      refine WC_ret ?_
      refine rtT ?_
      refine rtE ?_
      exact gv1 rfl rfl h
    · rw [if_neg (neT hb20)] at h
      refine WC_skip ?_
      refine nrm ?_
      refine WC_seq ?_
      refine WC_draws [1, 8, 16, 19] (.look 0 (.look 2 (.look 3 (.look 4 (.look 5 (.look 6 (.look 7 (.look 9 (.look 10 (.look 11 (.look 12 (.look 13 (.look 14 (.look 15 (.act 1 (.act 8 (.act 16 (.look 17 (.look 18 (.act 19 .nil)))))))))))))))))))) Try.mixed (by kernel_rfl) ?_
      refine WQ_val rfl gd0 (o_move (v := .pointer s1) (by exact e0)) rfl ?_
      refine WQ_val rfl gd0 (o_move (v := .pointer s1) (by exact e0)) rfl ?_
      refine WQ_val rfl gd0 (o_nilCheck (by exact (congrArg Value.pointer q9))) rfl ?_
      refine WQ_val rfl gd0 (o_fieldAddr0 Try.underlying50 rfl Try.sizeOf28 rfl rfl rfl) rfl ?_
      obtain ⟨x_a21, x_n22, x_c23, hc24, h⟩ := h
      refine WQ_look (fun w => w.cell? p8 = some (.slice x_a21 x_n22 x_c23)) rfl gd0 (fun w hc => (o_load Try.isAgg28 rfl hc)) hc24 rfl ?_
      refine WQ_val rfl gd0 (o_move (v := .int .i64 r5) rfl) rfl ?_
      obtain ⟨c25, c26, h⟩ := h
      refine WQ_val rfl gd0 (o_sliceH Try.underlying28 Try.sizeOf31 rfl rfl c25 c26) rfl ?_
      refine WQ_val rfl gd0 (o_move (v := .pointer s1) (by exact e0)) rfl ?_
      refine WQ_val rfl gd0 (o_nilCheck (by exact (congrArg Value.pointer q9))) rfl ?_
      refine WQ_val rfl gd0 (o_fieldAddr0 Try.underlying50 rfl Try.sizeOf28 rfl rfl rfl) rfl ?_
      obtain ⟨x_a27, x_n28, x_c29, hc30, h⟩ := h
      refine WQ_look (fun w => w.cell? p8 = some (.slice x_a27 x_n28 x_c29)) rfl gd0 (fun w hc => (o_load Try.isAgg28 rfl hc)) hc30 rfl ?_
      refine WQ_val rfl gd0 (o_move (v := .int .i64 r5) rfl) rfl ?_
      refine WQ_val rfl gd0 (o_add rfl rfl) rfl ?_
      obtain ⟨c31, c32, h⟩ := h
      refine WQ_val rfl gd0 (o_sliceL Try.underlying28 Try.sizeOf31 rfl rfl c31 c32) rfl ?_
      have h := New.out h
      obtain ⟨hh35, hh36, h⟩ := h
      refine WQ_act rfl gd0 (o_buildSlice (e := 31) (ps := []) (cs := []) partNil (fun w => by kernel_rfl)) rfl (by exact ⟨⟨trivial, fun _ => hh35⟩, fun _ => hh36⟩) ?_
      generalize hp33 : fresh w4.drew = p33 at h ⊢
      generalize hw34 : push w4.drew 31 [] = w34 at h ⊢
      try dsimp only at h
      obtain ⟨b_a37, b_n38, b_c39, w40, r41, h⟩ := h
      obtain ⟨hh42, h⟩ := h
      refine WQ_act rfl gd0 (o_append rfl rfl r41) rfl (by exact ⟨⟨trivial, depT (by kernel_rfl)⟩, fun _ => hh42⟩) ?_
      obtain ⟨b_a43, b_n44, b_c45, w46, r47, h⟩ := h
      refine WQ_act rfl gd0 (o_append rfl rfl r47) rfl (by exact ⟨⟨trivial, depT (by kernel_rfl)⟩, depT (by kernel_rfl)⟩) ?_
      refine WQ_val rfl gd0 (o_nilCheck (by exact (congrArg Value.pointer q9))) rfl ?_
      refine WQ_val rfl gd0 (o_fieldAddr0 Try.underlying50 rfl Try.sizeOf28 rfl rfl rfl) rfl ?_
      obtain ⟨c49, h⟩ := h
      refine WQ_do rfl gd0 (o_store (v := .slice b_a43 b_n44 b_c45) Try.sizeOf28 rfl rfl rfl c49) (by exact ⟨⟨trivial, depT (by kernel_rfl)⟩, depT (by kernel_rfl)⟩) ?_
      generalize hw48 : World.setCell w46 p8 (.slice b_a43 b_n44 b_c45) = w48 at h ⊢
      try dsimp only at h
      refine WQ_nil ?_
      refine nrm ?_
      refine WC_seq ?_
      refine WC_draws [1, 8, 16, 19] (.look 0 (.look 2 (.look 3 (.look 4 (.look 5 (.look 6 (.look 7 (.look 9 (.look 10 (.look 11 (.look 12 (.look 13 (.look 14 (.look 15 (.act 1 (.act 8 (.act 16 (.look 17 (.look 18 (.act 19 .nil)))))))))))))))))))) Try.mixed (by kernel_rfl) ?_
      refine WQ_val rfl gd0 (o_move (v := .pointer s1) (by exact e0)) rfl ?_
      refine WQ_val rfl gd0 (o_move (v := .pointer s1) (by exact e0)) rfl ?_
      refine WQ_val rfl gd0 (o_nilCheck (by exact (congrArg Value.pointer q9))) rfl ?_
      refine WQ_val rfl gd0 (o_fieldAddr 1 Try.underlying50 rfl Try.sizeOf26 rfl rfl rfl) rfl ?_
      obtain ⟨x_a50, x_n51, x_c52, hc53, h⟩ := h
      refine WQ_look (fun w => w.cell? (p8.add 1) = some (.slice x_a50 x_n51 x_c52)) rfl gd0 (fun w hc => (o_load Try.isAgg26 rfl hc)) hc53 rfl ?_
      refine WQ_val rfl gd0 (o_move (v := .int .i64 r5) rfl) rfl ?_
      obtain ⟨c54, c55, h⟩ := h
      refine WQ_val rfl gd0 (o_sliceH Try.underlying26 Try.sizeOf3 rfl rfl c54 c55) rfl ?_
      refine WQ_val rfl gd0 (o_move (v := .pointer s1) (by exact e0)) rfl ?_
      refine WQ_val rfl gd0 (o_nilCheck (by exact (congrArg Value.pointer q9))) rfl ?_
      refine WQ_val rfl gd0 (o_fieldAddr 1 Try.underlying50 rfl Try.sizeOf26 rfl rfl rfl) rfl ?_
      obtain ⟨x_a56, x_n57, x_c58, hc59, h⟩ := h
      refine WQ_look (fun w => w.cell? (p8.add 1) = some (.slice x_a56 x_n57 x_c58)) rfl gd0 (fun w hc => (o_load Try.isAgg26 rfl hc)) hc59 rfl ?_
      refine WQ_val rfl gd0 (o_move (v := .int .i64 r5) rfl) rfl ?_
      refine WQ_val rfl gd0 (o_add rfl rfl) rfl ?_
      obtain ⟨c60, c61, h⟩ := h
      refine WQ_val rfl gd0 (o_sliceL Try.underlying26 Try.sizeOf3 rfl rfl c60 c61) rfl ?_
      have h := New.out h
      obtain ⟨hh64, hh65, h⟩ := h
      refine WQ_act rfl gd0 (o_buildSlice (e := 3) (ps := []) (cs := []) partNil (fun w => by kernel_rfl)) rfl (by exact ⟨⟨trivial, fun _ => hh64⟩, fun _ => hh65⟩) ?_
      generalize hp62 : fresh w48.drew = p62 at h ⊢
      generalize hw63 : push w48.drew 3 [] = w63 at h ⊢
      try dsimp only at h
      obtain ⟨b_a66, b_n67, b_c68, w69, r70, h⟩ := h
      obtain ⟨hh71, h⟩ := h
      refine WQ_act rfl gd0 (o_append rfl rfl r70) rfl (by exact ⟨⟨trivial, depT (by kernel_rfl)⟩, fun _ => hh71⟩) ?_
      obtain ⟨b_a72, b_n73, b_c74, w75, r76, h⟩ := h
      refine WQ_act rfl gd0 (o_append rfl rfl r76) rfl (by exact ⟨⟨trivial, depT (by kernel_rfl)⟩, depT (by kernel_rfl)⟩) ?_
      refine WQ_val rfl gd0 (o_nilCheck (by exact (congrArg Value.pointer q9))) rfl ?_
      refine WQ_val rfl gd0 (o_fieldAddr 1 Try.underlying50 rfl Try.sizeOf26 rfl rfl rfl) rfl ?_
      obtain ⟨c78, h⟩ := h
      refine WQ_do rfl gd0 (o_store (v := .slice b_a72 b_n73 b_c74) Try.sizeOf26 rfl rfl rfl c78) (by exact ⟨⟨trivial, depT (by kernel_rfl)⟩, depT (by kernel_rfl)⟩) ?_
      generalize hw77 : World.setCell w75 (p8.add 1) (.slice b_a72 b_n73 b_c74) = w77 at h ⊢
      try dsimp only at h
      refine WQ_nil ?_
      refine nrm ?_
      refine WC_seq ?_
      refine WC_region ?_
      refine WL_val gd0 ((o_assign (v := .int .i64 0) rfl) _) rfl ?_
      refine WL_nil ?_
      refine nrm ?_
      refine WC_ret ?_
      refine rtE ?_
      exact gv1 rfl rfl h

def F32_j2 (p7 : Addr) (i25 : Int) (b_a13 : Option Addr) (b_n14 : Nat) (out_a21 : Option Addr) (out_n22 : Nat) (out_c23 : Nat) (t38 : Bool) (w39 : World) (nx26 : Option Addr → Nat → Nat → Int → World → Prop) : Prop :=
  if t38 = true then
  ∃ (x41 : Int), w39.drew.cell? (p7.add 2) = some (.int .i64 x41) ∧ ∃ (x_a43 : Option Addr) (x_n44 x_c45 : Nat), w39.drew.cell? p7 = some (.slice x_a43 x_n44 x_c45) ∧ ∃ (p49 : Addr), x_a43 = some p49 ∧ (0 : Int) ≤ i25 ∧ i25 < (x_n44 : Int) ∧ ∃ (x51 : Int), w39.drew.cell? ((p49.add (i25.toNat * 4)).add 1) = some (.int .i64 x51) ∧ ∃ (p55 : Addr), b_a13 = some p55 ∧ (0 : Int) ≤ i25 ∧ i25 < (b_n14 : Int) ∧ Put w39.drew (p55.add i25.toNat) (.int .i64 (IntKind.i64.wrap (x41 + x51))) (fun w57 => ∃ (x_a59 : Option Addr) (x_n60 x_c61 : Nat), w57.cell? p7 = some (.slice x_a59 x_n60 x_c61) ∧ ∃ (p65 : Addr), x_a59 = some p65 ∧ (0 : Int) ≤ i25 ∧ i25 < (x_n60 : Int) ∧ ∃ (x67 x68 : Int) (x69 : Bool) (x_a70 : Option Addr) (x_n71 x_c72 : Nat), Cells w57 (p65.add (i25.toNat * 4)) 0 [.int .i64 x67, .int .i64 x68, .bool x69, .slice x_a70 x_n71 x_c72] ∧ New w57 31 [.int .i64 x67, .int .i64 x68, .bool x69, .slice x_a70 x_n71 x_c72] (fun p74 w75 => ∃ (b_a76 : Option Addr) (b_n77 b_c78 : Nat) (w79 : World), (Builtin.append_ #[28, 28] 28 #[.slice out_a21 out_n22 out_c23, .slice (some p74) 1 1]).run Try.prog w75 = .ok (.slice b_a76 b_n77 b_c78) w79 ∧ nx26 b_a76 b_n77 b_c78 (IntKind.i64.wrap (i25 + 1)) w79))
else
  nx26 out_a21 out_n22 out_c23 (IntKind.i64.wrap (i25 + 1)) w39
def F32_b1 (p7 : Addr) (b_a13 : Option Addr) (b_n14 : Nat) (b_c15 : Nat) (out_a21 : Option Addr) (out_n22 : Nat) (out_c23 : Nat) (i25 : Int) (w26 : World) (nx26 : Option Addr → Nat → Nat → Int → World → Prop) (k : Value → World → Prop) : Prop :=
  ∃ (x_a28 : Option Addr) (x_n29 x_c30 : Nat), w26.cell? p7 = some (.slice x_a28 x_n29 x_c30) ∧ if i25 < (x_n29 : Int) then
  ∃ (x_a81 : Option Addr) (x_n82 x_c83 : Nat), w26.drew.cell? p7 = some (.slice x_a81 x_n82 x_c83) ∧ ∃ (p87 : Addr), x_a81 = some p87 ∧ (0 : Int) ≤ i25 ∧ i25 < (x_n82 : Int) ∧ ∃ (x89 : Bool), w26.drew.cell? ((p87.add (i25.toNat * 4)).add 2) = some (.bool x89) ∧ if x89 = true then
    ∃ (p94 : Addr), b_a13 = some p94 ∧ (0 : Int) ≤ i25 ∧ i25 < (b_n14 : Int) ∧ ∃ (x96 : Int), w26.drew.cell? (p94.add i25.toNat) = some (.int .i64 x96) ∧ ∃ (x98 : Int), w26.drew.cell? (p7.add 2) = some (.int .i64 x98) ∧ F32_j2 p7 i25 b_a13 b_n14 out_a21 out_n22 out_c23 (decide (x96 ≤ x98)) w26.drew nx26
  else
    F32_j2 p7 i25 b_a13 b_n14 out_a21 out_n22 out_c23 false w26.drew nx26
else
  Put w26 (p7.add 1) (.slice b_a13 b_n14 b_c15) (fun w100 => k (.slice out_a21 out_n22 out_c23) w100)
/-- (*spacecraft spacecraftref34.Service).Due -/
def F32 (s1 : Option Addr) (now2 : Int) (w3 : World) (k : Value → World → Prop) : Prop :=
  Does Try.prog 47 #[.pointer s1, .int .i64 now2] w3 (fun v w4 => v = .tuple #[] ∧ New w4 3 [] (fun p5 w6 => ∃ (p7 : Addr), s1 = some p7 ∧ ∃ (x_a9 : Option Addr) (x_n10 x_c11 : Nat), w6.cell? (p7.add 1) = some (.slice x_a9 x_n10 x_c11) ∧ ∃ (b_a13 : Option Addr) (b_n14 b_c15 : Nat) (w16 : World), (Builtin.append_ #[26, 26] 26 #[.slice (some p5) 0 0, .slice x_a9 x_n10 x_c11]).run Try.prog w6 = .ok (.slice b_a13 b_n14 b_c15) w16 ∧ LoopP (fun (s : Option Addr × Nat × Nat × Int) w' nx' => F32_b1 p7 b_a13 b_n14 b_c15 (s.1) (s.2.1) (s.2.2.1) (s.2.2.2) w' (fun x0 x1 x2 x3 w => nx' (x0, x1, x2, x3) w) k) (none, 0, 0, 0) w16))
set_option maxRecDepth 100000 in
set_option maxHeartbeats 2000000 in
theorem w32 (s1 : Option Addr) (now2 : Int) (w3 : World) (k : Value → World → Prop) (h : F32 s1 now2 w3 k) : Does Try.prog 32 #[.pointer s1, .int .i64 now2] w3 k := by
  refine enter 76 Try.func32 rfl rfl rfl ?_
  intro ρ hρ
  have e0 := hρ 0 _ rfl
  have e1 := hρ 1 _ rfl
  unfold F32 at h
  refine WC_seq ?_
  refine WC_region ?_
  refine WL_val gd0 ((o_assign (v := .slice none 0 0) rfl) _) rfl ?_
  refine WL_nil ?_
  refine nrm ?_
  refine WC_seq ?_
  refine WC_region ?_
  refine WL_val gd0 ((o_move (v := .pointer s1) (by exact e0)) _) rfl ?_
  refine WL_val gd0 ((o_move (v := .int .i64 now2) (by exact e1)) _) rfl ?_
  refine WL_call gd0 (o_call Try.call47 (argCons rfl (argCons rfl argNil)) _) rfl (h.mono ?_)
  rintro _ w4 ⟨rfl, h⟩
  refine WL_nil ?_
  refine nrm ?_
  refine WC_seq ?_
  refine WC_region ?_
  have h := New.out h
  refine WL_val gd0 (o_buildSlice (e := 3) (ps := []) (cs := []) partNil (fun w => by kernel_rfl)) rfl ?_
  generalize hp5 : fresh w4 = p5 at h ⊢
  generalize hw6 : push w4 3 [] = w6 at h ⊢
  try dsimp only at h
  refine WL_val gd0 ((o_move (v := .pointer s1) (by exact e0)) _) rfl ?_
  obtain ⟨p7, q8, h⟩ := h
  refine WL_val gd0 ((o_nilCheck (by exact (congrArg Value.pointer q8))) _) rfl ?_
  refine WL_val gd0 ((o_fieldAddr 1 Try.underlying50 rfl Try.sizeOf26 rfl rfl rfl) _) rfl ?_
  obtain ⟨x_a9, x_n10, x_c11, hc12, h⟩ := h
  refine WL_val gd0 (o_load Try.isAgg26 rfl hc12) rfl ?_
  obtain ⟨b_a13, b_n14, b_c15, w16, r17, h⟩ := h
  refine WL_val gd0 (o_append rfl rfl r17) rfl ?_
  refine WL_val gd0 ((o_assign (v := .slice b_a13 b_n14 b_c15) rfl) _) rfl ?_
  refine WL_nil ?_
  refine nrm ?_
  refine WC_seq ?_
  refine WC_region ?_
  refine WL_val gd0 ((o_assign (v := .slice none 0 0) rfl) _) rfl ?_
  refine WL_nil ?_
  refine nrm ?_
  refine WC_seq ?_
  refine WC_seq ?_
  refine WC_region ?_
  refine WL_val gd0 ((o_assign (v := .int .i64 0) rfl) _) rfl ?_
  refine WL_nil ?_
  refine nrm ?_
  refine WC_block ?_
  obtain ⟨J26, ⟨n26, h0⟩, hr26⟩ := h
  refine WC_loop (fun n ρ w' => ∃ (out_a21 : Option Addr) (out_n22 out_c23 : Nat) (i25 : Int), ρ 6 = .slice out_a21 out_n22 out_c23 ∧ ρ 7 = .int .i64 i25 ∧ ρ 0 = .pointer s1 ∧ ρ 5 = .slice b_a13 b_n14 b_c15 ∧ J26 n (out_a21, out_n22, out_c23, i25) w') ⟨n26, _, _, _, _, rfl, rfl, e0, rfl, h0⟩ ?_
  rintro n26 ρ w26 ⟨out_a21, out_n22, out_c23, i25, e6_20, e7_24, e0_18, e5_19, h⟩
  have h : F32_b1 p7 b_a13 b_n14 b_c15 out_a21 out_n22 out_c23 i25 w26 (fun x0 x1 x2 x3 w => ∃ m, m < n26 ∧ J26 m (x0, x1, x2, x3) w) k := hr26 n26 (out_a21, out_n22, out_c23, i25) w26 h
  unfold F32_b1 at h
  refine WC_seq ?_
  refine WC_seq ?_
  refine WC_region ?_
  refine WL_val gd0 ((o_move (v := .int .i64 i25) (by exact e7_24)) _) rfl ?_
  refine WL_val gd0 ((o_move (v := .pointer s1) (by exact e0_18)) _) rfl ?_
  refine WL_val gd0 ((o_nilCheck (by exact (congrArg Value.pointer q8))) _) rfl ?_
  refine WL_val gd0 ((o_fieldAddr0 Try.underlying50 rfl Try.sizeOf28 rfl rfl rfl) _) rfl ?_
  obtain ⟨x_a28, x_n29, x_c30, hc31, h⟩ := h
  refine WL_val gd0 (o_load Try.isAgg28 rfl hc31) rfl ?_
  refine WL_val gd0 ((o_len Try.underlying28 rfl) _) rfl ?_
  refine WL_val gd0 ((o_lss rfl rfl) _) rfl ?_
  refine WL_nil ?_
  refine nrm ?_
  refine WC_cond (t := (decide (i25 < (x_n29 : Int)))) rfl (fun hb32 => ?_) (fun hb32 => ?_)
  · rw [if_pos (of_decide_eq_true hb32)] at h
    refine WC_skip ?_
    refine nrm ?_
    refine WC_seq ?_
    refine WC_block ?_
    refine WC_cut (fun ρ w' => ∃ (t38 : Bool), ρ 44 = .bool t38 ∧ ρ 0 = .pointer s1 ∧ ρ 5 = .slice b_a13 b_n14 b_c15 ∧ ρ 6 = .slice out_a21 out_n22 out_c23 ∧ ρ 7 = .int .i64 i25 ∧ F32_j2 p7 i25 b_a13 b_n14 out_a21 out_n22 out_c23 t38 w' (fun x0 x1 x2 x3 w => ∃ m, m < n26 ∧ J26 m (x0, x1, x2, x3) w)) ?_ ?_
    · refine WC_draws [] (.look 0 (.look 1 (.look 2 (.look 3 (.look 4 (.look 5 (.look 6 (.look 7 (.look 8 (.look 9 (.look 10 (.look 11 (.look 12 (.look 13 (.look 14 (.look 15 (.look 16 (.look 17 (.look 18 .nil))))))))))))))))))) Try.mixed (by kernel_rfl) ?_
      refine WQ_val rfl gd0 (o_move (v := .pointer s1) (by exact e0_18)) rfl ?_
      refine WQ_val rfl gd0 (o_nilCheck (by exact (congrArg Value.pointer q8))) rfl ?_
      refine WQ_val rfl gd0 (o_fieldAddr0 Try.underlying50 rfl Try.sizeOf28 rfl rfl rfl) rfl ?_
      obtain ⟨x_a81, x_n82, x_c83, hc84, h⟩ := h
      refine WQ_look (fun w => w.cell? p7 = some (.slice x_a81 x_n82 x_c83)) rfl gd0 (fun w hc => (o_load Try.isAgg28 rfl hc)) hc84 rfl ?_
      refine WQ_val rfl gd0 (o_move (v := .int .i64 i25) (by exact e7_24)) rfl ?_
      obtain ⟨p87, q88, h⟩ := h
      obtain ⟨l85, u86, h⟩ := h
      refine WQ_val rfl gd0 (o_indexAddr Try.underlying28 Try.sizeOf31 (by exact (congrArg (fun z => Value.slice z x_n82 x_c83) q88)) rfl l85 u86) rfl ?_
      refine WQ_val rfl gd0 (o_fieldAddr 2 Try.underlying31 rfl Try.sizeOf4 rfl rfl rfl) rfl ?_
      obtain ⟨x89, hc90, h⟩ := h
      refine WQ_look (fun w => w.cell? ((p87.add (i25.toNat * 4)).add 2) = some (.bool x89)) rfl gd0 (fun w hc => (o_load Try.isAgg4 rfl hc)) hc90 rfl ?_
      refine WQ_val rfl gd0 (o_move (v := .bool x89) rfl) rfl ?_
      refine bsplit x89 (fun hb91 => ?_) (fun hb91 => ?_)
      · rw [if_pos hb91] at h
        refine WQ_val rfl (gdY (b := x89) 34 rfl rfl hb91) (o_move (v := .slice b_a13 b_n14 b_c15) (by exact e5_19)) rfl ?_
        refine WQ_val rfl (gdY (b := x89) 34 rfl rfl hb91) (o_move (v := .int .i64 i25) (by exact e7_24)) rfl ?_
        obtain ⟨p94, q95, h⟩ := h
        obtain ⟨l92, u93, h⟩ := h
        refine WQ_val rfl (gdY (b := x89) 34 rfl rfl hb91) (o_indexAddr1 Try.underlying26 Try.sizeOf3 (by exact (congrArg (fun z => Value.slice z b_n14 b_c15) q95)) rfl l92 u93) rfl ?_
        obtain ⟨x96, hc97, h⟩ := h
        refine WQ_look (fun w => w.cell? (p94.add i25.toNat) = some (.int .i64 x96)) rfl (gdY (b := x89) 34 rfl rfl hb91) (fun w hc => (o_load Try.isAgg3 rfl hc)) hc97 rfl ?_
        refine WQ_val rfl (gdY (b := x89) 34 rfl rfl hb91) (o_move (v := .pointer s1) (by exact e0_18)) rfl ?_
        refine WQ_val rfl (gdY (b := x89) 34 rfl rfl hb91) (o_nilCheck (by exact (congrArg Value.pointer q8))) rfl ?_
        refine WQ_val rfl (gdY (b := x89) 34 rfl rfl hb91) (o_fieldAddr 2 Try.underlying50 rfl Try.sizeOf3 rfl rfl rfl) rfl ?_
        obtain ⟨x98, hc99, h⟩ := h
        refine WQ_look (fun w => w.cell? (p7.add 2) = some (.int .i64 x98)) rfl (gdY (b := x89) 34 rfl rfl hb91) (fun w hc => (o_load Try.isAgg3 rfl hc)) hc99 rfl ?_
        refine WQ_val rfl (gdY (b := x89) 34 rfl rfl hb91) (o_leq rfl rfl) rfl ?_
        refine WQ_val rfl gd0 (o_pickT (v := .bool (decide (x96 ≤ x98))) rfl hb91 rfl) rfl ?_
        refine WQ_nil ?_
        refine nrm ?_
        exact ⟨_, rfl, e0_18, e5_19, e6_20, e7_24, h⟩
      · rw [if_neg (neT hb91)] at h
        refine WQ_skip rfl (gdN (b := x89) 34 rfl rfl hb91) rfl ?_
        refine WQ_skip rfl (gdN (b := x89) 34 rfl rfl hb91) rfl ?_
        refine WQ_skip rfl (gdN (b := x89) 34 rfl rfl hb91) rfl ?_
        refine WQ_skip rfl (gdN (b := x89) 34 rfl rfl hb91) rfl ?_
        refine WQ_skip rfl (gdN (b := x89) 34 rfl rfl hb91) rfl ?_
        refine WQ_skip rfl (gdN (b := x89) 34 rfl rfl hb91) rfl ?_
        refine WQ_skip rfl (gdN (b := x89) 34 rfl rfl hb91) rfl ?_
        refine WQ_skip rfl (gdN (b := x89) 34 rfl rfl hb91) rfl ?_
        refine WQ_skip rfl (gdN (b := x89) 34 rfl rfl hb91) rfl ?_
        refine WQ_val rfl gd0 (o_pickF (v := .bool false) rfl hb91 rfl) rfl ?_
        refine WQ_nil ?_
        refine nrm ?_
        exact ⟨_, rfl, e0_18, e5_19, e6_20, e7_24, h⟩
    · rintro ρ w39 ⟨t38, e44_37, e0_33, e5_34, e6_35, e7_36, h⟩
      unfold F32_j2 at h
      refine WC_cond (t := t38) (by exact e44_37) (fun hb40 => ?_) (fun hb40 => ?_)
      · rw [if_pos hb40] at h
        refine WC_seq ?_
        refine WC_draws [16] (.look 0 (.look 1 (.look 2 (.look 3 (.look 4 (.look 5 (.look 6 (.look 7 (.look 8 (.look 9 (.look 10 (.look 11 (.look 12 (.look 13 (.look 14 (.look 15 (.act 16 .nil))))))))))))))))) Try.mixed (by kernel_rfl) ?_
        refine WQ_val rfl gd0 (o_move (v := .slice b_a13 b_n14 b_c15) (by exact e5_34)) rfl ?_
        refine WQ_val rfl gd0 (o_move (v := .int .i64 i25) (by exact e7_36)) rfl ?_
        refine WQ_val rfl gd0 (o_move (v := .pointer s1) (by exact e0_33)) rfl ?_
        refine WQ_val rfl gd0 (o_nilCheck (by exact (congrArg Value.pointer q8))) rfl ?_
        refine WQ_val rfl gd0 (o_fieldAddr 2 Try.underlying50 rfl Try.sizeOf3 rfl rfl rfl) rfl ?_
        obtain ⟨x41, hc42, h⟩ := h
        refine WQ_look (fun w => w.cell? (p7.add 2) = some (.int .i64 x41)) rfl gd0 (fun w hc => (o_load Try.isAgg3 rfl hc)) hc42 rfl ?_
        refine WQ_val rfl gd0 (o_move (v := .pointer s1) (by exact e0_33)) rfl ?_
        refine WQ_val rfl gd0 (o_nilCheck (by exact (congrArg Value.pointer q8))) rfl ?_
        refine WQ_val rfl gd0 (o_fieldAddr0 Try.underlying50 rfl Try.sizeOf28 rfl rfl rfl) rfl ?_
        obtain ⟨x_a43, x_n44, x_c45, hc46, h⟩ := h
        refine WQ_look (fun w => w.cell? p7 = some (.slice x_a43 x_n44 x_c45)) rfl gd0 (fun w hc => (o_load Try.isAgg28 rfl hc)) hc46 rfl ?_
        refine WQ_val rfl gd0 (o_move (v := .int .i64 i25) (by exact e7_36)) rfl ?_
        obtain ⟨p49, q50, h⟩ := h
        obtain ⟨l47, u48, h⟩ := h
        refine WQ_val rfl gd0 (o_indexAddr Try.underlying28 Try.sizeOf31 (by exact (congrArg (fun z => Value.slice z x_n44 x_c45) q50)) rfl l47 u48) rfl ?_
        refine WQ_val rfl gd0 (o_fieldAddr 1 Try.underlying31 rfl Try.sizeOf3 rfl rfl rfl) rfl ?_
        obtain ⟨x51, hc52, h⟩ := h
        refine WQ_look (fun w => w.cell? ((p49.add (i25.toNat * 4)).add 1) = some (.int .i64 x51)) rfl gd0 (fun w hc => (o_load Try.isAgg3 rfl hc)) hc52 rfl ?_
        refine WQ_val rfl gd0 (o_add rfl rfl) rfl ?_
        obtain ⟨p55, q56, h⟩ := h
        obtain ⟨l53, u54, h⟩ := h
        refine WQ_val rfl gd0 (o_indexAddr1 Try.underlying26 Try.sizeOf3 (by exact (congrArg (fun z => Value.slice z b_n14 b_c15) q56)) rfl l53 u54) rfl ?_
        obtain ⟨c58, h⟩ := h
        refine WQ_do rfl gd0 (o_store (v := .int .i64 (IntKind.i64.wrap (x41 + x51))) Try.sizeOf3 rfl rfl rfl c58) (by exact ⟨⟨⟨trivial, depT (by kernel_rfl)⟩, depT (by kernel_rfl)⟩, depT (by kernel_rfl)⟩) ?_
        generalize hw57 : World.setCell w39.drew (p55.add i25.toNat) (.int .i64 (IntKind.i64.wrap (x41 + x51))) = w57 at h ⊢
        try dsimp only at h
        refine WQ_nil ?_
        refine nrm ?_
        refine WC_region ?_
        refine WL_val gd0 ((o_move (v := .slice out_a21 out_n22 out_c23) (by exact e6_35)) _) rfl ?_
        refine WL_val gd0 ((o_move (v := .pointer s1) (by exact e0_33)) _) rfl ?_
        refine WL_val gd0 ((o_nilCheck (by exact (congrArg Value.pointer q8))) _) rfl ?_
        refine WL_val gd0 ((o_fieldAddr0 Try.underlying50 rfl Try.sizeOf28 rfl rfl rfl) _) rfl ?_
        obtain ⟨x_a59, x_n60, x_c61, hc62, h⟩ := h
        refine WL_val gd0 (o_load Try.isAgg28 rfl hc62) rfl ?_
        refine WL_val gd0 ((o_move (v := .int .i64 i25) (by exact e7_36)) _) rfl ?_
        obtain ⟨p65, q66, h⟩ := h
        obtain ⟨l63, u64, h⟩ := h
        refine WL_val gd0 ((o_indexAddr Try.underlying28 Try.sizeOf31 (by exact (congrArg (fun z => Value.slice z x_n60 x_c61) q66)) rfl l63 u64) _) rfl ?_
        obtain ⟨x67, x68, x69, x_a70, x_n71, x_c72, hc73, h⟩ := h
        refine WL_val gd0 (o_loadAgg (vs := [.int .i64 x67, .int .i64 x68, .bool x69, .slice x_a70 x_n71 x_c72]) Try.isAgg31 Try.sizeOf31 rfl hc73) rfl ?_
        have h := New.out h
        refine WL_val gd0 (o_buildSlice (e := 31) (ps := [(0, .agg #[.int .i64 x67, .int .i64 x68, .bool x69, .slice x_a70 x_n71 x_c72])]) (cs := [.int .i64 x67, .int .i64 x68, .bool x69, .slice x_a70 x_n71 x_c72]) (partCons rfl partNil) (fun w => by kernel_rfl)) rfl ?_
        generalize hp74 : fresh w57 = p74 at h ⊢
        generalize hw75 : push w57 31 [.int .i64 x67, .int .i64 x68, .bool x69, .slice x_a70 x_n71 x_c72] = w75 at h ⊢
        try dsimp only at h
        obtain ⟨b_a76, b_n77, b_c78, w79, r80, h⟩ := h
        refine WL_val gd0 (o_append rfl rfl r80) rfl ?_
        refine WL_val gd0 ((o_assign (v := .slice b_a76 b_n77 b_c78) rfl) _) rfl ?_
        refine WL_nil ?_
        refine nrmB ?_
        refine nrm ?_
        refine WC_region ?_
        refine WL_val gd0 ((o_move (v := .int .i64 i25) (by exact e7_36)) _) rfl ?_
        refine WL_val gd0 ((o_add rfl rfl) _) rfl ?_
        refine WL_val gd0 ((o_assign (v := .int .i64 (IntKind.i64.wrap (i25 + 1))) rfl) _) rfl ?_
        refine WL_nil ?_
        refine nrm ?_
        obtain ⟨m27, hm27, h⟩ := h
        exact ⟨m27, hm27, _, _, _, _, rfl, rfl, e0_33, e5_34, h⟩
      · rw [if_neg (neT hb40)] at h
        refine WC_skip ?_
        refine nrmB ?_
        refine nrm ?_
        refine WC_region ?_
        refine WL_val gd0 ((o_move (v := .int .i64 i25) (by exact e7_36)) _) rfl ?_
        refine WL_val gd0 ((o_add rfl rfl) _) rfl ?_
        refine WL_val gd0 ((o_assign (v := .int .i64 (IntKind.i64.wrap (i25 + 1))) rfl) _) rfl ?_
        refine WL_nil ?_
        refine nrm ?_
        obtain ⟨m27, hm27, h⟩ := h
        exact ⟨m27, hm27, _, _, _, _, e6_35, rfl, e0_33, e5_34, h⟩
  · rw [if_neg (of_decide_eq_false hb32)] at h
    refine WC_exit ?_
    refine exT ?_
    refine exT ?_
    refine exB ?_
    refine nrm ?_
    refine WC_seq ?_
    refine WC_region ?_
    refine WL_val gd0 ((o_move (v := .pointer s1) (by exact e0_18)) _) rfl ?_
    refine WL_val gd0 ((o_move (v := .slice b_a13 b_n14 b_c15) (by exact e5_19)) _) rfl ?_
    refine WL_val gd0 ((o_nilCheck (by exact (congrArg Value.pointer q8))) _) rfl ?_
    refine WL_val gd0 ((o_fieldAddr 1 Try.underlying50 rfl Try.sizeOf26 rfl rfl rfl) _) rfl ?_
    obtain ⟨c101, h⟩ := h
    refine WL_act gd0 (o_store (v := .slice b_a13 b_n14 b_c15) Try.sizeOf26 rfl rfl rfl c101) ?_
    generalize hw100 : World.setCell w26 (p7.add 1) (.slice b_a13 b_n14 b_c15) = w100 at h ⊢
    try dsimp only at h
    refine WL_nil ?_
    refine nrm ?_
    refine WC_seq ?_
    refine WC_region ?_
    refine WL_val gd0 ((o_move (v := .slice out_a21 out_n22 out_c23) (by exact e6_20)) _) rfl ?_
    refine WL_val gd0 ((o_assign (v := .slice out_a21 out_n22 out_c23) rfl) _) rfl ?_
    refine WL_nil ?_
    refine nrm ?_
    refine WC_ret ?_
    refine rtE ?_
    exact gv1 rfl rfl h

def F33_b1 (l_n2 : Nat) (want_a4 : Option Addr) (want_n5 : Nat) (p8 : Option Addr) (l_a1 : Option Addr) (now7 : Int) (i16 : Int) (w17 : World) (k : Value → World → Prop) (nx17 : Int → World → Prop) : Prop :=
  if i16 < (l_n2 : Int) then
  ∃ (p22 : Addr), want_a4 = some p22 ∧ (0 : Int) ≤ i16 ∧ i16 < (want_n5 : Int) ∧ ∃ (x_a24 : Option Addr) (x_n25 x_c26 : Nat), w17.cell? ((p22.add (i16.toNat * 4)).add 3) = some (.slice x_a24 x_n25 x_c26) ∧ Does Try.prog 27 #[.pointer p8, .slice x_a24 x_n25 x_c26] w17 (fun v w28 => ∃ (r_a29 : Option Addr) (r_n30 r_c31 : Nat) (r32 : Int), v = .tuple #[.slice r_a29 r_n30 r_c31, .int .i64 r32] ∧ ∃ (p35 : Addr), l_a1 = some p35 ∧ (0 : Int) ≤ i16 ∧ i16 < (l_n2 : Int) ∧ ∃ (x37 : Int), w28.drew.cell? (p35.add (i16.toNat * 3)) = some (.int .i64 x37) ∧ (0 : Int) ≤ i16 ∧ i16 < (want_n5 : Int) ∧ ∃ (x41 : Int), w28.drew.cell? (p22.add (i16.toNat * 4)) = some (.int .i64 x41) ∧ if x37 ≠ x41 then
    k (.bool false) w28.drew
  else
    (0 : Int) ≤ i16 ∧ i16 < (l_n2 : Int) ∧ ∃ (x46 : Int), w28.drew.cell? ((p35.add (i16.toNat * 3)).add 1) = some (.int .i64 x46) ∧ if x46 ≠ now7 then
      k (.bool false) w28.drew
    else
      (0 : Int) ≤ i16 ∧ i16 < (l_n2 : Int) ∧ ∃ (x_a51 : Option Addr) (x_n52 x_c53 : Nat), w28.drew.cell? ((p35.add (i16.toNat * 3)).add 2) = some (.slice x_a51 x_n52 x_c53) ∧ ∃ (s55 : ByteArray), (Conv.bytesToString (.slice x_a51 x_n52 x_c53)).run Try.prog w28.drew = .ok (.string s55) w28.drew ∧ ∃ (s57 : ByteArray), (Conv.bytesToString (.slice r_a29 r_n30 r_c31)).run Try.prog w28.drew = .ok (.string s57) w28.drew ∧ if (!(s55.toList == s57.toList)) = true then
        k (.bool false) w28.drew
      else
        nx17 (IntKind.i64.wrap (i16 + 1)) w28.drew)
else
  k (.bool true) w17
/-- spacecraft spacecraftlaw34.due -/
def F33 (l_a1 : Option Addr) (l_n2 : Nat) (l_c3 : Nat) (want_a4 : Option Addr) (want_n5 : Nat) (want_c6 : Nat) (now7 : Int) (p8 : Option Addr) (w9 : World) (k : Value → World → Prop) : Prop :=
  if (l_n2 : Int) ≠ (want_n5 : Int) then
  k (.bool false) w9
else
  LoopP (fun (s : Int) w' nx' => F33_b1 l_n2 want_a4 want_n5 p8 l_a1 now7 s w' k (fun x0 w => nx' x0 w)) 0 w9
set_option maxRecDepth 100000 in
set_option maxHeartbeats 2000000 in
theorem w33 (l_a1 : Option Addr) (l_n2 : Nat) (l_c3 : Nat) (want_a4 : Option Addr) (want_n5 : Nat) (want_c6 : Nat) (now7 : Int) (p8 : Option Addr) (w9 : World) (k : Value → World → Prop) (h : F33 l_a1 l_n2 l_c3 want_a4 want_n5 want_c6 now7 p8 w9 k) : Does Try.prog 33 #[.slice l_a1 l_n2 l_c3, .slice want_a4 want_n5 want_c6, .int .i64 now7, .pointer p8] w9 k := by
  refine enter 64 Try.func33 rfl rfl rfl ?_
  intro ρ hρ
  have e0 := hρ 0 _ rfl
  have e1 := hρ 1 _ rfl
  have e2 := hρ 2 _ rfl
  have e3 := hρ 3 _ rfl
  unfold F33 at h
  refine WC_seq ?_
  refine WC_region ?_
  refine WL_val gd0 ((o_assign (v := .bool false) rfl) _) rfl ?_
  refine WL_nil ?_
  refine nrm ?_
  refine WC_seq ?_
  refine WC_seq ?_
  refine WC_region ?_
  refine WL_val gd0 ((o_move (v := .slice l_a1 l_n2 l_c3) (by exact e0)) _) rfl ?_
  refine WL_val gd0 ((o_len Try.underlying36 rfl) _) rfl ?_
  refine WL_val gd0 ((o_move (v := .slice want_a4 want_n5 want_c6) (by exact e1)) _) rfl ?_
  refine WL_val gd0 ((o_len Try.underlying28 rfl) _) rfl ?_
  refine WL_val gd0 ((o_neq rfl rfl) _) rfl ?_
  refine WL_nil ?_
  refine nrm ?_
  refine WC_cond (t := (decide ((l_n2 : Int) ≠ (want_n5 : Int)))) rfl (fun hb10 => ?_) (fun hb10 => ?_)
  · rw [if_pos (of_decide_eq_true hb10)] at h
    refine WC_seq ?_
    refine WC_region ?_
    refine WL_val gd0 ((o_assign (v := .bool false) rfl) _) rfl ?_
    refine WL_nil ?_
    refine nrm ?_
    refine WC_ret ?_
    refine rtT ?_
    refine rtE ?_
    exact gv1 rfl rfl h
  · rw [if_neg (of_decide_eq_false hb10)] at h
    refine WC_skip ?_
    refine nrm ?_
    refine WC_seq ?_
    refine WC_seq ?_
    refine WC_region ?_
    refine WL_val gd0 ((o_assign (v := .int .i64 0) rfl) _) rfl ?_
    refine WL_nil ?_
    refine nrm ?_
    refine WC_block ?_
    obtain ⟨J17, ⟨n17, h0⟩, hr17⟩ := h
    refine WC_loop (fun n ρ w' => ∃ (i16 : Int), ρ 9 = .int .i64 i16 ∧ ρ 0 = .slice l_a1 l_n2 l_c3 ∧ ρ 1 = .slice want_a4 want_n5 want_c6 ∧ ρ 2 = .int .i64 now7 ∧ ρ 3 = .pointer p8 ∧ J17 n i16 w') ⟨n17, _, rfl, e0, e1, e2, e3, h0⟩ ?_
    rintro n17 ρ w17 ⟨i16, e9_15, e0_11, e1_12, e2_13, e3_14, h⟩
    have h : F33_b1 l_n2 want_a4 want_n5 p8 l_a1 now7 i16 w17 k (fun x0 w => ∃ m, m < n17 ∧ J17 m x0 w) := hr17 n17 i16 w17 h
    unfold F33_b1 at h
    refine WC_seq ?_
    refine WC_seq ?_
    refine WC_region ?_
    refine WL_val gd0 ((o_move (v := .int .i64 i16) (by exact e9_15)) _) rfl ?_
    refine WL_val gd0 ((o_move (v := .slice l_a1 l_n2 l_c3) (by exact e0_11)) _) rfl ?_
    refine WL_val gd0 ((o_len Try.underlying36 rfl) _) rfl ?_
    refine WL_val gd0 ((o_lss rfl rfl) _) rfl ?_
    refine WL_nil ?_
    refine nrm ?_
    refine WC_cond (t := (decide (i16 < (l_n2 : Int)))) rfl (fun hb19 => ?_) (fun hb19 => ?_)
    · rw [if_pos (of_decide_eq_true hb19)] at h
      refine WC_skip ?_
      refine nrm ?_
      refine WC_seq ?_
      refine WC_block ?_
      refine WC_seq ?_
      refine WC_region ?_
      refine WL_val gd0 ((o_move (v := .pointer p8) (by exact e3_14)) _) rfl ?_
      refine WL_val gd0 ((o_move (v := .slice want_a4 want_n5 want_c6) (by exact e1_12)) _) rfl ?_
      refine WL_val gd0 ((o_move (v := .int .i64 i16) (by exact e9_15)) _) rfl ?_
      obtain ⟨p22, q23, h⟩ := h
      obtain ⟨l20, u21, h⟩ := h
      refine WL_val gd0 ((o_indexAddr Try.underlying28 Try.sizeOf31 (by exact (congrArg (fun z => Value.slice z want_n5 want_c6) q23)) rfl l20 u21) _) rfl ?_
      refine WL_val gd0 ((o_fieldAddr 3 Try.underlying31 rfl Try.sizeOf26 rfl rfl rfl) _) rfl ?_
      obtain ⟨x_a24, x_n25, x_c26, hc27, h⟩ := h
      refine WL_val gd0 (o_load Try.isAgg26 rfl hc27) rfl ?_
      refine WL_call gd0 (o_call Try.call27 (argCons rfl (argCons rfl argNil)) _) rfl (h.mono ?_)
      rintro _ w28 ⟨r_a29, r_n30, r_c31, r32, rfl, h⟩
      refine WL_val gd0 ((o_move (v := .tuple #[.slice r_a29 r_n30 r_c31, .int .i64 r32]) rfl) _) rfl ?_
      refine WL_val gd0 ((o_extract (vs := [.slice r_a29 r_n30 r_c31, .int .i64 r32]) (r := .slice r_a29 r_n30 r_c31) rfl rfl) _) rfl ?_
      refine WL_val gd0 ((o_extract (vs := [.slice r_a29 r_n30 r_c31, .int .i64 r32]) (r := .int .i64 r32) rfl rfl) _) rfl ?_
      refine WL_val gd0 ((o_assign (v := .slice r_a29 r_n30 r_c31) rfl) _) rfl ?_
      refine WL_val gd0 ((o_assign (v := .int .i64 r32) rfl) _) rfl ?_
      refine WL_nil ?_
      refine nrm ?_
      refine WC_seq ?_
      refine WC_draws [] (.look 0 (.look 1 (.look 2 (.look 3 (.look 4 (.look 5 (.look 6 (.look 7 (.look 8 (.look 9 (.look 10 (.look 11 (.look 12 (.look 13 (.look 14 (.look 15 (.look 16 (.look 17 (.look 18 (.look 19 (.look 20 (.look 21 (.look 22 (.look 23 (.look 24 (.look 25 (.look 26 (.look 27 (.look 28 (.look 29 (.look 30 .nil))))))))))))))))))))))))))))))) Try.mixed (by kernel_rfl) ?_
      refine WQ_val rfl gd0 (o_move (v := .slice l_a1 l_n2 l_c3) (by exact e0_11)) rfl ?_
      refine WQ_val rfl gd0 (o_move (v := .int .i64 i16) (by exact e9_15)) rfl ?_
      obtain ⟨p35, q36, h⟩ := h
      obtain ⟨l33, u34, h⟩ := h
      refine WQ_val rfl gd0 (o_indexAddr Try.underlying36 Try.sizeOf40 (by exact (congrArg (fun z => Value.slice z l_n2 l_c3) q36)) rfl l33 u34) rfl ?_
      refine WQ_val rfl gd0 (o_fieldAddr0 Try.underlying40 rfl Try.sizeOf3 rfl rfl rfl) rfl ?_
      obtain ⟨x37, hc38, h⟩ := h
      refine WQ_look (fun w => w.cell? (p35.add (i16.toNat * 3)) = some (.int .i64 x37)) rfl gd0 (fun w hc => (o_load Try.isAgg3 rfl hc)) hc38 rfl ?_
      refine WQ_val rfl gd0 (o_move (v := .slice want_a4 want_n5 want_c6) (by exact e1_12)) rfl ?_
      refine WQ_val rfl gd0 (o_move (v := .int .i64 i16) (by exact e9_15)) rfl ?_
      obtain ⟨l39, u40, h⟩ := h
      refine WQ_val rfl gd0 (o_indexAddr Try.underlying28 Try.sizeOf31 (by exact (congrArg (fun z => Value.slice z want_n5 want_c6) q23)) rfl l39 u40) rfl ?_
      refine WQ_val rfl gd0 (o_fieldAddr0 Try.underlying31 rfl Try.sizeOf3 rfl rfl rfl) rfl ?_
      obtain ⟨x41, hc42, h⟩ := h
      refine WQ_look (fun w => w.cell? (p22.add (i16.toNat * 4)) = some (.int .i64 x41)) rfl gd0 (fun w hc => (o_load Try.isAgg3 rfl hc)) hc42 rfl ?_
      refine WQ_val rfl gd0 (o_neq rfl rfl) rfl ?_
      refine WQ_val rfl gd0 (o_move (v := .bool (decide (x37 ≠ x41))) rfl) rfl ?_
      refine bsplit (decide (x37 ≠ x41)) (fun hb43 => ?_) (fun hb43 => ?_)
      · rw [if_pos (of_decide_eq_true hb43)] at h
        refine WQ_skip rfl (gdN (b := (decide (x37 ≠ x41))) 44 rfl rfl hb43) rfl ?_
        refine WQ_skip rfl (gdN (b := (decide (x37 ≠ x41))) 44 rfl rfl hb43) rfl ?_
        refine WQ_skip rfl (gdN (b := (decide (x37 ≠ x41))) 44 rfl rfl hb43) rfl ?_
        refine WQ_skip rfl (gdN (b := (decide (x37 ≠ x41))) 44 rfl rfl hb43) rfl ?_
        refine WQ_skip rfl (gdN (b := (decide (x37 ≠ x41))) 44 rfl rfl hb43) rfl ?_
        refine WQ_skip rfl (gdN (b := (decide (x37 ≠ x41))) 44 rfl rfl hb43) rfl ?_
        refine WQ_skip rfl (gdN (b := (decide (x37 ≠ x41))) 44 rfl rfl hb43) rfl ?_
        refine WQ_val rfl gd0 (o_pickT (v := .bool true) rfl hb43 rfl) rfl ?_
        refine WQ_val rfl gd0 (o_move (v := .bool true) rfl) rfl ?_
        refine WQ_skip rfl (gdN (b := true) 53 rfl rfl rfl) rfl ?_
        refine WQ_skip rfl (gdN (b := true) 53 rfl rfl rfl) rfl ?_
        refine WQ_skip rfl (gdN (b := true) 53 rfl rfl rfl) rfl ?_
        refine WQ_skip rfl (gdN (b := true) 53 rfl rfl rfl) rfl ?_
        refine WQ_skip rfl (gdN (b := true) 53 rfl rfl rfl) rfl ?_
        refine WQ_skip rfl (gdN (b := true) 53 rfl rfl rfl) rfl ?_
        refine WQ_skip rfl (gdN (b := true) 53 rfl rfl rfl) rfl ?_
        refine WQ_skip rfl (gdN (b := true) 53 rfl rfl rfl) rfl ?_
        refine WQ_skip rfl (gdN (b := true) 53 rfl rfl rfl) rfl ?_
        refine WQ_val rfl gd0 (o_pickT (v := .bool true) rfl rfl rfl) rfl ?_
        refine WQ_nil ?_
        refine nrm ?_
        refine WC_cond (t := true) rfl (fun _ => ?_) (fun hx => by rw [(rfl : true = true)] at hx; cases hx)
        refine WC_seq ?_
        refine WC_region ?_
        refine WL_val gd0 ((o_assign (v := .bool false) rfl) _) rfl ?_
        refine WL_nil ?_
        refine nrm ?_
        refine WC_ret ?_
        refine rtB ?_
        refine rtT ?_
        refine rtT ?_
        refine rtB ?_
        refine rtT ?_
        refine rtE ?_
        exact gv1 rfl rfl h
      · rw [if_neg (of_decide_eq_false hb43)] at h
        refine WQ_val rfl (gdY (b := (decide (x37 ≠ x41))) 44 rfl rfl hb43) (o_move (v := .slice l_a1 l_n2 l_c3) (by exact e0_11)) rfl ?_
        refine WQ_val rfl (gdY (b := (decide (x37 ≠ x41))) 44 rfl rfl hb43) (o_move (v := .int .i64 i16) (by exact e9_15)) rfl ?_
        obtain ⟨l44, u45, h⟩ := h
        refine WQ_val rfl (gdY (b := (decide (x37 ≠ x41))) 44 rfl rfl hb43) (o_indexAddr Try.underlying36 Try.sizeOf40 (by exact (congrArg (fun z => Value.slice z l_n2 l_c3) q36)) rfl l44 u45) rfl ?_
        refine WQ_val rfl (gdY (b := (decide (x37 ≠ x41))) 44 rfl rfl hb43) (o_fieldAddr 1 Try.underlying40 rfl Try.sizeOf3 rfl rfl rfl) rfl ?_
        obtain ⟨x46, hc47, h⟩ := h
        refine WQ_look (fun w => w.cell? ((p35.add (i16.toNat * 3)).add 1) = some (.int .i64 x46)) rfl (gdY (b := (decide (x37 ≠ x41))) 44 rfl rfl hb43) (fun w hc => (o_load Try.isAgg3 rfl hc)) hc47 rfl ?_
        refine WQ_val rfl (gdY (b := (decide (x37 ≠ x41))) 44 rfl rfl hb43) (o_move (v := .int .i64 now7) (by exact e2_13)) rfl ?_
        refine WQ_val rfl (gdY (b := (decide (x37 ≠ x41))) 44 rfl rfl hb43) (o_neq rfl rfl) rfl ?_
        refine WQ_val rfl gd0 (o_pickF (v := .bool (decide (x46 ≠ now7))) rfl hb43 rfl) rfl ?_
        refine WQ_val rfl gd0 (o_move (v := .bool (decide (x46 ≠ now7))) rfl) rfl ?_
        refine bsplit (decide (x46 ≠ now7)) (fun hb48 => ?_) (fun hb48 => ?_)
        · rw [if_pos (of_decide_eq_true hb48)] at h
          refine WQ_skip rfl (gdN (b := (decide (x46 ≠ now7))) 53 rfl rfl hb48) rfl ?_
          refine WQ_skip rfl (gdN (b := (decide (x46 ≠ now7))) 53 rfl rfl hb48) rfl ?_
          refine WQ_skip rfl (gdN (b := (decide (x46 ≠ now7))) 53 rfl rfl hb48) rfl ?_
          refine WQ_skip rfl (gdN (b := (decide (x46 ≠ now7))) 53 rfl rfl hb48) rfl ?_
          refine WQ_skip rfl (gdN (b := (decide (x46 ≠ now7))) 53 rfl rfl hb48) rfl ?_
          refine WQ_skip rfl (gdN (b := (decide (x46 ≠ now7))) 53 rfl rfl hb48) rfl ?_
          refine WQ_skip rfl (gdN (b := (decide (x46 ≠ now7))) 53 rfl rfl hb48) rfl ?_
          refine WQ_skip rfl (gdN (b := (decide (x46 ≠ now7))) 53 rfl rfl hb48) rfl ?_
          refine WQ_skip rfl (gdN (b := (decide (x46 ≠ now7))) 53 rfl rfl hb48) rfl ?_
          refine WQ_val rfl gd0 (o_pickT (v := .bool true) rfl hb48 rfl) rfl ?_
          refine WQ_nil ?_
          refine nrm ?_
          refine WC_cond (t := true) rfl (fun _ => ?_) (fun hx => by rw [(rfl : true = true)] at hx; cases hx)
          refine WC_seq ?_
          refine WC_region ?_
          refine WL_val gd0 ((o_assign (v := .bool false) rfl) _) rfl ?_
          refine WL_nil ?_
          refine nrm ?_
          refine WC_ret ?_
          refine rtB ?_
          refine rtT ?_
          refine rtT ?_
          refine rtB ?_
          refine rtT ?_
          refine rtE ?_
          exact gv1 rfl rfl h
        · rw [if_neg (of_decide_eq_false hb48)] at h
          refine WQ_val rfl (gdY (b := (decide (x46 ≠ now7))) 53 rfl rfl hb48) (o_move (v := .slice l_a1 l_n2 l_c3) (by exact e0_11)) rfl ?_
          refine WQ_val rfl (gdY (b := (decide (x46 ≠ now7))) 53 rfl rfl hb48) (o_move (v := .int .i64 i16) (by exact e9_15)) rfl ?_
          obtain ⟨l49, u50, h⟩ := h
          refine WQ_val rfl (gdY (b := (decide (x46 ≠ now7))) 53 rfl rfl hb48) (o_indexAddr Try.underlying36 Try.sizeOf40 (by exact (congrArg (fun z => Value.slice z l_n2 l_c3) q36)) rfl l49 u50) rfl ?_
          refine WQ_val rfl (gdY (b := (decide (x46 ≠ now7))) 53 rfl rfl hb48) (o_fieldAddr 2 Try.underlying40 rfl Try.sizeOf38 rfl rfl rfl) rfl ?_
          obtain ⟨x_a51, x_n52, x_c53, hc54, h⟩ := h
          refine WQ_look (fun w => w.cell? ((p35.add (i16.toNat * 3)).add 2) = some (.slice x_a51 x_n52 x_c53)) rfl (gdY (b := (decide (x46 ≠ now7))) 53 rfl rfl hb48) (fun w hc => (o_load Try.isAgg38 rfl hc)) hc54 rfl ?_
          obtain ⟨s55, r56, h⟩ := h
          refine WQ_look (fun w => (Conv.bytesToString (.slice x_a51 x_n52 x_c53)).run Try.prog w = .ok (.string s55) w) rfl (gdY (b := (decide (x46 ≠ now7))) 53 rfl rfl hb48) (fun w hc => (o_toStr Try.underlying38 Try.underlying5 Try.underlying9 rfl hc)) r56 rfl ?_
          refine WQ_val rfl (gdY (b := (decide (x46 ≠ now7))) 53 rfl rfl hb48) (o_move (v := .slice r_a29 r_n30 r_c31) rfl) rfl ?_
          obtain ⟨s57, r58, h⟩ := h
          refine WQ_look (fun w => (Conv.bytesToString (.slice r_a29 r_n30 r_c31)).run Try.prog w = .ok (.string s57) w) rfl (gdY (b := (decide (x46 ≠ now7))) 53 rfl rfl hb48) (fun w hc => (o_toStr Try.underlying38 Try.underlying5 Try.underlying9 rfl hc)) r58 rfl ?_
          refine WQ_val rfl (gdY (b := (decide (x46 ≠ now7))) 53 rfl rfl hb48) (o_neqStr rfl rfl) rfl ?_
          refine WQ_val rfl gd0 (o_pickF (v := .bool (!(s55.toList == s57.toList))) rfl hb48 rfl) rfl ?_
          refine WQ_nil ?_
          refine nrm ?_
          refine WC_cond (t := (!(s55.toList == s57.toList))) rfl (fun hb59 => ?_) (fun hb59 => ?_)
          · rw [if_pos hb59] at h
            refine WC_seq ?_
            refine WC_region ?_
            refine WL_val gd0 ((o_assign (v := .bool false) rfl) _) rfl ?_
            refine WL_nil ?_
            refine nrm ?_
            refine WC_ret ?_
            refine rtB ?_
            refine rtT ?_
            refine rtT ?_
            refine rtB ?_
            refine rtT ?_
            refine rtE ?_
            exact gv1 rfl rfl h
          · rw [if_neg (neT hb59)] at h
            refine WC_skip ?_
            refine nrmB ?_
            refine nrm ?_
            refine WC_region ?_
            refine WL_val gd0 ((o_move (v := .int .i64 i16) (by exact e9_15)) _) rfl ?_
            refine WL_val gd0 ((o_add rfl rfl) _) rfl ?_
            refine WL_val gd0 ((o_assign (v := .int .i64 (IntKind.i64.wrap (i16 + 1))) rfl) _) rfl ?_
            refine WL_nil ?_
            refine nrm ?_
            obtain ⟨m18, hm18, h⟩ := h
            exact ⟨m18, hm18, _, rfl, e0_11, e1_12, e2_13, e3_14, h⟩
    · rw [if_neg (of_decide_eq_false hb19)] at h
      refine WC_exit ?_
      refine exT ?_
      refine exT ?_
      refine exB ?_
      refine nrm ?_
      refine WC_seq ?_
      refine WC_region ?_
      refine WL_val gd0 ((o_assign (v := .bool true) rfl) _) rfl ?_
      refine WL_nil ?_
      refine nrm ?_
      refine WC_ret ?_
      refine rtE ?_
      exact gv1 rfl rfl h

def F34_b1 (a_n2 : Nat) (a_a1 : Option Addr) (b_a4 : Option Addr) (b_n5 : Nat) (i12 : Int) (w13 : World) (k : Value → World → Prop) (nx13 : Int → World → Prop) : Prop :=
  if i12 < (a_n2 : Int) then
  ∃ (p18 : Addr), a_a1 = some p18 ∧ (0 : Int) ≤ i12 ∧ i12 < (a_n2 : Int) ∧ ∃ (x20 : Int), w13.drew.cell? (p18.add i12.toNat) = some (.int .i64 x20) ∧ ∃ (p24 : Addr), b_a4 = some p24 ∧ (0 : Int) ≤ i12 ∧ i12 < (b_n5 : Int) ∧ ∃ (x26 : Int), w13.drew.cell? (p24.add i12.toNat) = some (.int .i64 x26) ∧ if x20 ≠ x26 then
    k (.bool false) w13.drew
  else
    nx13 (IntKind.i64.wrap (i12 + 1)) w13.drew
else
  k (.bool true) w13
/-- spacecraft spacecraftref09.Same -/
def F34 (a_a1 : Option Addr) (a_n2 : Nat) (a_c3 : Nat) (b_a4 : Option Addr) (b_n5 : Nat) (b_c6 : Nat) (w7 : World) (k : Value → World → Prop) : Prop :=
  if (a_n2 : Int) ≠ (b_n5 : Int) then
  k (.bool false) w7
else
  LoopP (fun (s : Int) w' nx' => F34_b1 a_n2 a_a1 b_a4 b_n5 s w' k (fun x0 w => nx' x0 w)) 0 w7
set_option maxRecDepth 100000 in
set_option maxHeartbeats 2000000 in
theorem w34 (a_a1 : Option Addr) (a_n2 : Nat) (a_c3 : Nat) (b_a4 : Option Addr) (b_n5 : Nat) (b_c6 : Nat) (w7 : World) (k : Value → World → Prop) (h : F34 a_a1 a_n2 a_c3 b_a4 b_n5 b_c6 w7 k) : Does Try.prog 34 #[.slice a_a1 a_n2 a_c3, .slice b_a4 b_n5 b_c6] w7 k := by
  refine enter 26 Try.func34 rfl rfl rfl ?_
  intro ρ hρ
  have e0 := hρ 0 _ rfl
  have e1 := hρ 1 _ rfl
  unfold F34 at h
  refine WC_seq ?_
  refine WC_region ?_
  refine WL_val gd0 ((o_assign (v := .bool false) rfl) _) rfl ?_
  refine WL_nil ?_
  refine nrm ?_
  refine WC_seq ?_
  refine WC_seq ?_
  refine WC_region ?_
  refine WL_val gd0 ((o_move (v := .slice a_a1 a_n2 a_c3) (by exact e0)) _) rfl ?_
  refine WL_val gd0 ((o_len Try.underlying26 rfl) _) rfl ?_
  refine WL_val gd0 ((o_move (v := .slice b_a4 b_n5 b_c6) (by exact e1)) _) rfl ?_
  refine WL_val gd0 ((o_len Try.underlying26 rfl) _) rfl ?_
  refine WL_val gd0 ((o_neq rfl rfl) _) rfl ?_
  refine WL_nil ?_
  refine nrm ?_
  refine WC_cond (t := (decide ((a_n2 : Int) ≠ (b_n5 : Int)))) rfl (fun hb8 => ?_) (fun hb8 => ?_)
  · rw [if_pos (of_decide_eq_true hb8)] at h
    refine WC_seq ?_
    refine WC_region ?_
    refine WL_val gd0 ((o_assign (v := .bool false) rfl) _) rfl ?_
    refine WL_nil ?_
    refine nrm ?_
    refine WC_ret ?_
    refine rtT ?_
    refine rtE ?_
    exact gv1 rfl rfl h
  · rw [if_neg (of_decide_eq_false hb8)] at h
    refine WC_skip ?_
    refine nrm ?_
    refine WC_seq ?_
    refine WC_seq ?_
    refine WC_region ?_
    refine WL_val gd0 ((o_assign (v := .int .i64 0) rfl) _) rfl ?_
    refine WL_nil ?_
    refine nrm ?_
    refine WC_block ?_
    obtain ⟨J13, ⟨n13, h0⟩, hr13⟩ := h
    refine WC_loop (fun n ρ w' => ∃ (i12 : Int), ρ 5 = .int .i64 i12 ∧ ρ 0 = .slice a_a1 a_n2 a_c3 ∧ ρ 1 = .slice b_a4 b_n5 b_c6 ∧ J13 n i12 w') ⟨n13, _, rfl, e0, e1, h0⟩ ?_
    rintro n13 ρ w13 ⟨i12, e5_11, e0_9, e1_10, h⟩
    have h : F34_b1 a_n2 a_a1 b_a4 b_n5 i12 w13 k (fun x0 w => ∃ m, m < n13 ∧ J13 m x0 w) := hr13 n13 i12 w13 h
    unfold F34_b1 at h
    refine WC_seq ?_
    refine WC_seq ?_
    refine WC_region ?_
    refine WL_val gd0 ((o_move (v := .int .i64 i12) (by exact e5_11)) _) rfl ?_
    refine WL_val gd0 ((o_move (v := .slice a_a1 a_n2 a_c3) (by exact e0_9)) _) rfl ?_
    refine WL_val gd0 ((o_len Try.underlying26 rfl) _) rfl ?_
    refine WL_val gd0 ((o_lss rfl rfl) _) rfl ?_
    refine WL_nil ?_
    refine nrm ?_
    refine WC_cond (t := (decide (i12 < (a_n2 : Int)))) rfl (fun hb15 => ?_) (fun hb15 => ?_)
    · rw [if_pos (of_decide_eq_true hb15)] at h
      refine WC_skip ?_
      refine nrm ?_
      refine WC_seq ?_
      refine WC_block ?_
      refine WC_seq ?_
      refine WC_draws [] (.look 0 (.look 1 (.look 2 (.look 3 (.look 4 (.look 5 (.look 6 (.look 7 (.look 8 .nil))))))))) Try.mixed (by kernel_rfl) ?_
      refine WQ_val rfl gd0 (o_move (v := .slice a_a1 a_n2 a_c3) (by exact e0_9)) rfl ?_
      refine WQ_val rfl gd0 (o_move (v := .int .i64 i12) (by exact e5_11)) rfl ?_
      obtain ⟨p18, q19, h⟩ := h
      obtain ⟨l16, u17, h⟩ := h
      refine WQ_val rfl gd0 (o_indexAddr1 Try.underlying26 Try.sizeOf3 (by exact (congrArg (fun z => Value.slice z a_n2 a_c3) q19)) rfl l16 u17) rfl ?_
      obtain ⟨x20, hc21, h⟩ := h
      refine WQ_look (fun w => w.cell? (p18.add i12.toNat) = some (.int .i64 x20)) rfl gd0 (fun w hc => (o_load Try.isAgg3 rfl hc)) hc21 rfl ?_
      refine WQ_val rfl gd0 (o_move (v := .slice b_a4 b_n5 b_c6) (by exact e1_10)) rfl ?_
      refine WQ_val rfl gd0 (o_move (v := .int .i64 i12) (by exact e5_11)) rfl ?_
      obtain ⟨p24, q25, h⟩ := h
      obtain ⟨l22, u23, h⟩ := h
      refine WQ_val rfl gd0 (o_indexAddr1 Try.underlying26 Try.sizeOf3 (by exact (congrArg (fun z => Value.slice z b_n5 b_c6) q25)) rfl l22 u23) rfl ?_
      obtain ⟨x26, hc27, h⟩ := h
      refine WQ_look (fun w => w.cell? (p24.add i12.toNat) = some (.int .i64 x26)) rfl gd0 (fun w hc => (o_load Try.isAgg3 rfl hc)) hc27 rfl ?_
      refine WQ_val rfl gd0 (o_neq rfl rfl) rfl ?_
      refine WQ_nil ?_
      refine nrm ?_
      refine WC_cond (t := (decide (x20 ≠ x26))) rfl (fun hb28 => ?_) (fun hb28 => ?_)
      · rw [if_pos (of_decide_eq_true hb28)] at h
        refine WC_seq ?_
        refine WC_region ?_
        refine WL_val gd0 ((o_assign (v := .bool false) rfl) _) rfl ?_
        refine WL_nil ?_
        refine nrm ?_
        refine WC_ret ?_
        refine rtB ?_
        refine rtT ?_
        refine rtT ?_
        refine rtB ?_
        refine rtT ?_
        refine rtE ?_
        exact gv1 rfl rfl h
      · rw [if_neg (of_decide_eq_false hb28)] at h
        refine WC_skip ?_
        refine nrmB ?_
        refine nrm ?_
        refine WC_region ?_
        refine WL_val gd0 ((o_move (v := .int .i64 i12) (by exact e5_11)) _) rfl ?_
        refine WL_val gd0 ((o_add rfl rfl) _) rfl ?_
        refine WL_val gd0 ((o_assign (v := .int .i64 (IntKind.i64.wrap (i12 + 1))) rfl) _) rfl ?_
        refine WL_nil ?_
        refine nrm ?_
        obtain ⟨m14, hm14, h⟩ := h
        exact ⟨m14, hm14, _, rfl, e0_9, e1_10, h⟩
    · rw [if_neg (of_decide_eq_false hb15)] at h
      refine WC_exit ?_
      refine exT ?_
      refine exT ?_
      refine exB ?_
      refine nrm ?_
      refine WC_seq ?_
      refine WC_region ?_
      refine WL_val gd0 ((o_assign (v := .bool true) rfl) _) rfl ?_
      refine WL_nil ?_
      refine nrm ?_
      refine WC_ret ?_
      refine rtE ?_
      exact gv1 rfl rfl h

/-- spacecraft params.inRange -/
def F35 (d1 : Int) (d2 : Int) (d3 : Bool) (d4 : Int) (v5 : Int) (w6 : World) (k : Value → World → Prop) : Prop :=
  New w6 82 [.int .i64 d1, .int .i64 d2, .bool d3, .int .i64 d4] (fun p7 w8 => ∃ (x9 : Bool), w8.cell? (p7.add 2) = some (.bool x9) ∧ if x9 = true then
  ∃ (x12 : Int), w8.cell? (p7.add 1) = some (.int .i64 x12) ∧ (0 : Int) ≤ IntKind.i64.wrap (x12 - 1) ∧ if (IntKind.i64.wrap (0 - (shl .i64 1 (IntKind.i64.wrap (x12 - 1))))) ≤ v5 then
    k (.bool (decide (v5 < (shl .i64 1 (IntKind.i64.wrap (x12 - 1)))))) w8
  else
    k (.bool false) w8
else
  if 0 ≤ v5 then
    ∃ (x17 : Int), w8.cell? (p7.add 1) = some (.int .i64 x17) ∧ (0 : Int) ≤ x17 ∧ k (.bool (decide (v5 < (shl .i64 1 x17)))) w8
  else
    k (.bool false) w8)
set_option maxRecDepth 100000 in
set_option maxHeartbeats 2000000 in
theorem w35 (d1 : Int) (d2 : Int) (d3 : Bool) (d4 : Int) (v5 : Int) (w6 : World) (k : Value → World → Prop) (h : F35 d1 d2 d3 d4 v5 w6 k) : Does Try.prog 35 #[.agg #[.int .i64 d1, .int .i64 d2, .bool d3, .int .i64 d4], .int .i64 v5] w6 k := by
  refine enter 30 Try.func35 rfl rfl rfl ?_
  intro ρ hρ
  have e0 := hρ 0 _ rfl
  have e1 := hρ 1 _ rfl
  unfold F35 at h
  refine WC_seq ?_
  refine WC_region ?_
  have h := New.out h
  refine WL_val gd0 (o_box (v := .agg #[.int .i64 d1, .int .i64 d2, .bool d3, .int .i64 d4]) (cs := [.int .i64 d1, .int .i64 d2, .bool d3, .int .i64 d4]) (by exact e0) rfl) rfl ?_
  generalize hp7 : fresh w6 = p7 at h ⊢
  generalize hw8 : push w6 82 [.int .i64 d1, .int .i64 d2, .bool d3, .int .i64 d4] = w8 at h ⊢
  try dsimp only at h
  refine WL_val gd0 ((o_assign (v := .bool false) rfl) _) rfl ?_
  refine WL_nil ?_
  refine nrm ?_
  refine WC_seq ?_
  refine WC_seq ?_
  refine WC_region ?_
  refine WL_val gd0 ((o_fieldAddr 2 Try.underlying82 rfl Try.sizeOf4 rfl rfl rfl) _) rfl ?_
  obtain ⟨x9, hc10, h⟩ := h
  refine WL_val gd0 (o_load Try.isAgg4 rfl hc10) rfl ?_
  refine WL_nil ?_
  refine nrm ?_
  refine WC_cond (t := x9) rfl (fun hb11 => ?_) (fun hb11 => ?_)
  · rw [if_pos hb11] at h
    refine WC_seq ?_
    refine WC_region ?_
    refine WL_val gd0 ((o_fieldAddr 1 Try.underlying82 rfl Try.sizeOf3 rfl rfl rfl) _) rfl ?_
    obtain ⟨x12, hc13, h⟩ := h
    refine WL_val gd0 (o_load Try.isAgg3 rfl hc13) rfl ?_
    refine WL_val gd0 ((o_sub rfl rfl) _) rfl ?_
    obtain ⟨c14, h⟩ := h
    refine WL_val gd0 ((o_shl rfl rfl c14) _) rfl ?_
    refine WL_val gd0 ((o_assign (v := .int .i64 (shl .i64 1 (IntKind.i64.wrap (x12 - 1)))) rfl) _) rfl ?_
    refine WL_nil ?_
    refine nrm ?_
    refine WC_seq ?_
    refine WC_region ?_
    refine WL_val gd0 ((o_move (v := .int .i64 v5) (by exact e1)) _) rfl ?_
    refine WL_val gd0 ((o_move (v := .int .i64 (shl .i64 1 (IntKind.i64.wrap (x12 - 1)))) rfl) _) rfl ?_
    refine WL_val gd0 ((o_neg rfl) _) rfl ?_
    refine WL_val gd0 ((o_geq rfl rfl) _) rfl ?_
    refine WL_val gd0 ((o_move (v := .bool (decide ((IntKind.i64.wrap (0 - (shl .i64 1 (IntKind.i64.wrap (x12 - 1))))) ≤ v5))) rfl) _) rfl ?_
    refine bsplit (decide ((IntKind.i64.wrap (0 - (shl .i64 1 (IntKind.i64.wrap (x12 - 1))))) ≤ v5)) (fun hb15 => ?_) (fun hb15 => ?_)
    · rw [if_pos (of_decide_eq_true hb15)] at h
      refine WL_val (gdY (b := (decide ((IntKind.i64.wrap (0 - (shl .i64 1 (IntKind.i64.wrap (x12 - 1))))) ≤ v5))) 16 rfl rfl hb15) ((o_move (v := .int .i64 v5) (by exact e1)) _) rfl ?_
      refine WL_val (gdY (b := (decide ((IntKind.i64.wrap (0 - (shl .i64 1 (IntKind.i64.wrap (x12 - 1))))) ≤ v5))) 16 rfl rfl hb15) ((o_move (v := .int .i64 (shl .i64 1 (IntKind.i64.wrap (x12 - 1)))) rfl) _) rfl ?_
      refine WL_val (gdY (b := (decide ((IntKind.i64.wrap (0 - (shl .i64 1 (IntKind.i64.wrap (x12 - 1))))) ≤ v5))) 16 rfl rfl hb15) ((o_lss rfl rfl) _) rfl ?_
      refine WL_val gd0 ((o_pickT (v := .bool (decide (v5 < (shl .i64 1 (IntKind.i64.wrap (x12 - 1)))))) rfl hb15 rfl) _) rfl ?_
      refine WL_val gd0 ((o_assign (v := .bool (decide (v5 < (shl .i64 1 (IntKind.i64.wrap (x12 - 1)))))) rfl) _) rfl ?_
      refine WL_nil ?_
      refine nrm ?_
      refine WC_ret ?_
      refine rtT ?_
      refine rtE ?_
      exact gv1 rfl rfl h
    · rw [if_neg (of_decide_eq_false hb15)] at h
      refine WL_skip (gdN (b := (decide ((IntKind.i64.wrap (0 - (shl .i64 1 (IntKind.i64.wrap (x12 - 1))))) ≤ v5))) 16 rfl rfl hb15) rfl ?_
      refine WL_skip (gdN (b := (decide ((IntKind.i64.wrap (0 - (shl .i64 1 (IntKind.i64.wrap (x12 - 1))))) ≤ v5))) 16 rfl rfl hb15) rfl ?_
      refine WL_skip (gdN (b := (decide ((IntKind.i64.wrap (0 - (shl .i64 1 (IntKind.i64.wrap (x12 - 1))))) ≤ v5))) 16 rfl rfl hb15) rfl ?_
      refine WL_val gd0 ((o_pickF (v := .bool false) rfl hb15 rfl) _) rfl ?_
      refine WL_val gd0 ((o_assign (v := .bool false) rfl) _) rfl ?_
      refine WL_nil ?_
      refine nrm ?_
      refine WC_ret ?_
      refine rtT ?_
      refine rtE ?_
      exact gv1 rfl rfl h
  · rw [if_neg (neT hb11)] at h
    refine WC_skip ?_
    refine nrm ?_
    refine WC_seq ?_
    refine WC_region ?_
    refine WL_val gd0 ((o_move (v := .int .i64 v5) (by exact e1)) _) rfl ?_
    refine WL_val gd0 ((o_geq rfl rfl) _) rfl ?_
    refine WL_val gd0 ((o_move (v := .bool (decide (0 ≤ v5))) rfl) _) rfl ?_
    refine bsplit (decide (0 ≤ v5)) (fun hb16 => ?_) (fun hb16 => ?_)
    · rw [if_pos (of_decide_eq_true hb16)] at h
      refine WL_val (gdY (b := (decide (0 ≤ v5))) 23 rfl rfl hb16) ((o_move (v := .int .i64 v5) (by exact e1)) _) rfl ?_
      refine WL_val (gdY (b := (decide (0 ≤ v5))) 23 rfl rfl hb16) ((o_fieldAddr 1 Try.underlying82 rfl Try.sizeOf3 rfl rfl rfl) _) rfl ?_
      obtain ⟨x17, hc18, h⟩ := h
      refine WL_val (gdY (b := (decide (0 ≤ v5))) 23 rfl rfl hb16) (o_load Try.isAgg3 rfl hc18) rfl ?_
      obtain ⟨c19, h⟩ := h
      refine WL_val (gdY (b := (decide (0 ≤ v5))) 23 rfl rfl hb16) ((o_shl rfl rfl c19) _) rfl ?_
      refine WL_val (gdY (b := (decide (0 ≤ v5))) 23 rfl rfl hb16) ((o_lss rfl rfl) _) rfl ?_
      refine WL_val gd0 ((o_pickT (v := .bool (decide (v5 < (shl .i64 1 x17)))) rfl hb16 rfl) _) rfl ?_
      refine WL_val gd0 ((o_assign (v := .bool (decide (v5 < (shl .i64 1 x17)))) rfl) _) rfl ?_
      refine WL_nil ?_
      refine nrm ?_
      refine WC_ret ?_
      refine rtE ?_
      exact gv1 rfl rfl h
    · rw [if_neg (of_decide_eq_false hb16)] at h
      refine WL_skip (gdN (b := (decide (0 ≤ v5))) 23 rfl rfl hb16) rfl ?_
      refine WL_skip (gdN (b := (decide (0 ≤ v5))) 23 rfl rfl hb16) rfl ?_
      refine WL_skip (gdN (b := (decide (0 ≤ v5))) 23 rfl rfl hb16) rfl ?_
      refine WL_skip (gdN (b := (decide (0 ≤ v5))) 23 rfl rfl hb16) rfl ?_
      refine WL_skip (gdN (b := (decide (0 ≤ v5))) 23 rfl rfl hb16) rfl ?_
      refine WL_val gd0 ((o_pickF (v := .bool false) rfl hb16 rfl) _) rfl ?_
      refine WL_val gd0 ((o_assign (v := .bool false) rfl) _) rfl ?_
      refine WL_nil ?_
      refine nrm ?_
      refine WC_ret ?_
      refine rtE ?_
      exact gv1 rfl rfl h

/-- (*spacecraft params.table spacecraft api.ParamDef ).append -/
def F36 (t1 : Option Addr) (id2 : Int) (v3 : Int) (v4 : Int) (v5 : Bool) (v6 : Int) (w7 : World) (k : Value → World → Prop) : Prop :=
  New w7 82 [.int .i64 v3, .int .i64 v4, .bool v5, .int .i64 v6] (fun p8 w9 => ∃ (p10 : Addr), t1 = some p10 ∧ ∃ (x_a12 : Option Addr) (x_n13 x_c14 : Nat), w9.drew.cell? p10 = some (.slice x_a12 x_n13 x_c14) ∧ ∃ (x_a16 : Option Addr) (x_n17 x_c18 : Nat), w9.drew.cell? (p10.add 1) = some (.slice x_a16 x_n17 x_c18) ∧ ∃ (x20 x21 : Int) (x22 : Bool) (x23 : Int), Cells w9.drew p8 0 [.int .i64 x20, .int .i64 x21, .bool x22, .int .i64 x23] ∧ (New w9.drew 3 [.int .i64 id2] (fun p25 w26 => w26.cell? p10 = some (.slice x_a12 x_n13 x_c14) ∧ w26.cell? (p10.add 1) = some (.slice x_a16 x_n17 x_c18) ∧ Cells w26 p8 0 [.int .i64 x20, .int .i64 x21, .bool x22, .int .i64 x23] ∧ (∃ (b_a30 : Option Addr) (b_n31 b_c32 : Nat) (w33 : World), (Builtin.append_ #[26, 26] 26 #[.slice x_a12 x_n13 x_c14, .slice (some p25) 1 1]).run Try.prog w26 = .ok (.slice b_a30 b_n31 b_c32) w33 ∧ w33.cell? (p10.add 1) = some (.slice x_a16 x_n17 x_c18) ∧ Cells w33 p8 0 [.int .i64 x20, .int .i64 x21, .bool x22, .int .i64 x23] ∧ New w33 82 [.int .i64 x20, .int .i64 x21, .bool x22, .int .i64 x23] (fun p37 w38 => w38.cell? p10 = some (.slice x_a12 x_n13 x_c14) ∧ w38.cell? (p10.add 1) = some (.slice x_a16 x_n17 x_c18) ∧ ∃ (b_a41 : Option Addr) (b_n42 b_c43 : Nat) (w44 : World), (Builtin.append_ #[56, 56] 56 #[.slice x_a16 x_n17 x_c18, .slice (some p37) 1 1]).run Try.prog w38 = .ok (.slice b_a41 b_n42 b_c43) w44 ∧ Put w44 p10 (.slice b_a30 b_n31 b_c32) (fun w46 => Put w46 (p10.add 1) (.slice b_a41 b_n42 b_c43) (fun w48 => k (.tuple #[]) w48)))) ∧ (New w26 82 [.int .i64 x20, .int .i64 x21, .bool x22, .int .i64 x23] (fun p50 w51 => w51.cell? p10 = some (.slice x_a12 x_n13 x_c14) ∧ w51.cell? (p10.add 1) = some (.slice x_a16 x_n17 x_c18) ∧ ∃ (b_a54 : Option Addr) (b_n55 b_c56 : Nat) (w57 : World), (Builtin.append_ #[26, 26] 26 #[.slice x_a12 x_n13 x_c14, .slice (some p25) 1 1]).run Try.prog w51 = .ok (.slice b_a54 b_n55 b_c56) w57 ∧ w57.cell? (p10.add 1) = some (.slice x_a16 x_n17 x_c18) ∧ Cells w57 p8 0 [.int .i64 x20, .int .i64 x21, .bool x22, .int .i64 x23] ∧ ∃ (b_a61 : Option Addr) (b_n62 b_c63 : Nat) (w64 : World), (Builtin.append_ #[56, 56] 56 #[.slice x_a16 x_n17 x_c18, .slice (some p50) 1 1]).run Try.prog w57 = .ok (.slice b_a61 b_n62 b_c63) w64 ∧ Put w64 p10 (.slice b_a54 b_n55 b_c56) (fun w66 => Put w66 (p10.add 1) (.slice b_a61 b_n62 b_c63) (fun w68 => k (.tuple #[]) w68)))))) ∧ (New w9.drew 82 [.int .i64 x20, .int .i64 x21, .bool x22, .int .i64 x23] (fun p71 w72 => w72.cell? p10 = some (.slice x_a12 x_n13 x_c14) ∧ w72.cell? (p10.add 1) = some (.slice x_a16 x_n17 x_c18) ∧ New w72 3 [.int .i64 id2] (fun p75 w76 => w76.cell? p10 = some (.slice x_a12 x_n13 x_c14) ∧ w76.cell? (p10.add 1) = some (.slice x_a16 x_n17 x_c18) ∧ Cells w76 p8 0 [.int .i64 x20, .int .i64 x21, .bool x22, .int .i64 x23] ∧ ∃ (b_a80 : Option Addr) (b_n81 b_c82 : Nat) (w83 : World), (Builtin.append_ #[26, 26] 26 #[.slice x_a12 x_n13 x_c14, .slice (some p75) 1 1]).run Try.prog w76 = .ok (.slice b_a80 b_n81 b_c82) w83 ∧ w83.cell? (p10.add 1) = some (.slice x_a16 x_n17 x_c18) ∧ Cells w83 p8 0 [.int .i64 x20, .int .i64 x21, .bool x22, .int .i64 x23] ∧ ∃ (b_a87 : Option Addr) (b_n88 b_c89 : Nat) (w90 : World), (Builtin.append_ #[56, 56] 56 #[.slice x_a16 x_n17 x_c18, .slice (some p71) 1 1]).run Try.prog w83 = .ok (.slice b_a87 b_n88 b_c89) w90 ∧ Put w90 p10 (.slice b_a80 b_n81 b_c82) (fun w92 => Put w92 (p10.add 1) (.slice b_a87 b_n88 b_c89) (fun w94 => k (.tuple #[]) w94))))))
set_option maxRecDepth 100000 in
set_option maxHeartbeats 2000000 in
theorem w36 (t1 : Option Addr) (id2 : Int) (v3 : Int) (v4 : Int) (v5 : Bool) (v6 : Int) (w7 : World) (k : Value → World → Prop) (h : F36 t1 id2 v3 v4 v5 v6 w7 k) : Does Try.prog 36 #[.pointer t1, .int .i64 id2, .agg #[.int .i64 v3, .int .i64 v4, .bool v5, .int .i64 v6]] w7 k := by
  refine enter 26 Try.func36 rfl rfl rfl ?_
  intro ρ hρ
  have e0 := hρ 0 _ rfl
  have e1 := hρ 1 _ rfl
  have e2 := hρ 2 _ rfl
  unfold F36 at h
  refine WC_seq ?_
  refine WC_region ?_
  have h := New.out h
  refine WL_val gd0 (o_box (v := .agg #[.int .i64 v3, .int .i64 v4, .bool v5, .int .i64 v6]) (cs := [.int .i64 v3, .int .i64 v4, .bool v5, .int .i64 v6]) (by exact e2) rfl) rfl ?_
  generalize hp8 : fresh w7 = p8 at h ⊢
  generalize hw9 : push w7 82 [.int .i64 v3, .int .i64 v4, .bool v5, .int .i64 v6] = w9 at h ⊢
  try dsimp only at h
  refine WL_nil ?_
  refine nrm ?_
  refine WC_draws [7, 8, 14, 15, 18, 21] (.look 0 (.look 1 (.look 2 (.look 3 (.look 4 (.look 5 (.look 6 (.look 9 (.look 10 (.look 11 (.look 12 (.look 13 (.fork 7 (.fork 8 (.act 14 (.act 15 (.look 16 (.look 17 (.act 18 (.look 19 (.look 20 (.act 21 .nil)))))))) 14 (.act 8 (.act 15 (.look 16 (.look 17 (.act 18 (.look 19 (.look 20 (.act 21 .nil))))))))) 14 (.act 7 (.act 8 (.act 15 (.look 16 (.look 17 (.act 18 (.look 19 (.look 20 (.act 21 .nil)))))))))))))))))))))) Try.mixed (by kernel_rfl) ?_
  refine WQ_val rfl gd0 (o_move (v := .pointer t1) (by exact e0)) rfl ?_
  refine WQ_val rfl gd0 (o_move (v := .pointer t1) (by exact e0)) rfl ?_
  refine WQ_val rfl gd0 (o_move (v := .pointer t1) (by exact e0)) rfl ?_
  obtain ⟨p10, q11, h⟩ := h
  refine WQ_val rfl gd0 (o_nilCheck (by exact (congrArg Value.pointer q11))) rfl ?_
  refine WQ_val rfl gd0 (o_fieldAddr0 Try.underlying78 rfl Try.sizeOf26 rfl rfl rfl) rfl ?_
  obtain ⟨x_a12, x_n13, x_c14, hc15, h⟩ := h
  refine WQ_look (fun w => w.cell? p10 = some (.slice x_a12 x_n13 x_c14)) rfl gd0 (fun w hc => (o_load Try.isAgg26 rfl hc)) hc15 rfl ?_
  refine WQ_val rfl gd0 (o_move (v := .int .i64 id2) (by exact e1)) rfl ?_
  refine WQ_val rfl gd0 (o_move (v := .pointer t1) (by exact e0)) rfl ?_
  refine WQ_val rfl gd0 (o_nilCheck (by exact (congrArg Value.pointer q11))) rfl ?_
  refine WQ_val rfl gd0 (o_fieldAddr 1 Try.underlying78 rfl Try.sizeOf56 rfl rfl rfl) rfl ?_
  obtain ⟨x_a16, x_n17, x_c18, hc19, h⟩ := h
  refine WQ_look (fun w => w.cell? (p10.add 1) = some (.slice x_a16 x_n17 x_c18)) rfl gd0 (fun w hc => (o_load Try.isAgg56 rfl hc)) hc19 rfl ?_
  obtain ⟨x20, x21, x22, x23, hc24, h⟩ := h
  refine WQ_look (fun w => Cells w p8 0 [.int .i64 x20, .int .i64 x21, .bool x22, .int .i64 x23]) rfl gd0 (fun w hc => (o_loadAgg (vs := [.int .i64 x20, .int .i64 x21, .bool x22, .int .i64 x23]) Try.isAgg82 Try.sizeOf82 rfl hc)) hc24 rfl ?_
  obtain ⟨h, hf96⟩ := h
  refine WQ_fork ?_ ?_
  · have h := New.out h
    obtain ⟨hh27, hh28, hh29, h⟩ := h
    refine WQ_act rfl gd0 (o_buildSlice (e := 3) (ps := [(0, .int .i64 id2)]) (cs := [.int .i64 id2]) (partCons rfl partNil) (fun w => by kernel_rfl)) rfl (by exact ⟨⟨⟨trivial, fun _ => hh27⟩, fun _ => hh28⟩, fun _ => hh29⟩) ?_
    generalize hp25 : fresh w9.drew = p25 at h ⊢
    generalize hw26 : push w9.drew 3 [.int .i64 id2] = w26 at h ⊢
    try dsimp only at h
    obtain ⟨h, hf70⟩ := h
    refine WQ_fork ?_ ?_
    · obtain ⟨b_a30, b_n31, b_c32, w33, r34, h⟩ := h
      obtain ⟨hh35, hh36, h⟩ := h
      refine WQ_act rfl gd0 (o_append rfl rfl r34) rfl (by exact ⟨⟨⟨trivial, depT (by kernel_rfl)⟩, fun _ => hh35⟩, fun _ => hh36⟩) ?_
      have h := New.out h
      obtain ⟨hh39, hh40, h⟩ := h
      refine WQ_act rfl gd0 (o_buildSlice (e := 82) (ps := [(0, .agg #[.int .i64 x20, .int .i64 x21, .bool x22, .int .i64 x23])]) (cs := [.int .i64 x20, .int .i64 x21, .bool x22, .int .i64 x23]) (partCons rfl partNil) (fun w => by kernel_rfl)) rfl (by exact ⟨⟨⟨trivial, fun _ => hh39⟩, fun _ => hh40⟩, depT (by kernel_rfl)⟩) ?_
      generalize hp37 : fresh w33 = p37 at h ⊢
      generalize hw38 : push w33 82 [.int .i64 x20, .int .i64 x21, .bool x22, .int .i64 x23] = w38 at h ⊢
      try dsimp only at h
      obtain ⟨b_a41, b_n42, b_c43, w44, r45, h⟩ := h
      refine WQ_act rfl gd0 (o_append rfl rfl r45) rfl (by exact ⟨⟨⟨trivial, depT (by kernel_rfl)⟩, depT (by kernel_rfl)⟩, depT (by kernel_rfl)⟩) ?_
      refine WQ_val rfl gd0 (o_nilCheck (by exact (congrArg Value.pointer q11))) rfl ?_
      refine WQ_val rfl gd0 (o_fieldAddr0 Try.underlying78 rfl Try.sizeOf26 rfl rfl rfl) rfl ?_
      obtain ⟨c47, h⟩ := h
      refine WQ_do rfl gd0 (o_store (v := .slice b_a30 b_n31 b_c32) Try.sizeOf26 rfl rfl rfl c47) (by exact ⟨⟨⟨trivial, depT (by kernel_rfl)⟩, depT (by kernel_rfl)⟩, depT (by kernel_rfl)⟩) ?_
      generalize hw46 : World.setCell w44 p10 (.slice b_a30 b_n31 b_c32) = w46 at h ⊢
      try dsimp only at h
      refine WQ_val rfl gd0 (o_nilCheck (by exact (congrArg Value.pointer q11))) rfl ?_
      refine WQ_val rfl gd0 (o_fieldAddr 1 Try.underlying78 rfl Try.sizeOf56 rfl rfl rfl) rfl ?_
      obtain ⟨c49, h⟩ := h
      refine WQ_do rfl gd0 (o_store (v := .slice b_a41 b_n42 b_c43) Try.sizeOf56 rfl rfl rfl c49) (by exact ⟨⟨⟨trivial, depT (by kernel_rfl)⟩, depT (by kernel_rfl)⟩, depT (by kernel_rfl)⟩) ?_
      generalize hw48 : World.setCell w46 (p10.add 1) (.slice b_a41 b_n42 b_c43) = w48 at h ⊢
      try dsimp only at h
      refine WQ_nil ?_
      refine ndE ?_
      exact gv0 rfl h
    · replace h := hf70
      have h := New.out h
      obtain ⟨hh52, hh53, h⟩ := h
      refine WQ_act rfl gd0 (o_buildSlice (e := 82) (ps := [(0, .agg #[.int .i64 x20, .int .i64 x21, .bool x22, .int .i64 x23])]) (cs := [.int .i64 x20, .int .i64 x21, .bool x22, .int .i64 x23]) (partCons rfl partNil) (fun w => by kernel_rfl)) rfl (by exact ⟨⟨⟨trivial, fun _ => hh52⟩, fun _ => hh53⟩, depT (by kernel_rfl)⟩) ?_
      generalize hp50 : fresh w26 = p50 at h ⊢
      generalize hw51 : push w26 82 [.int .i64 x20, .int .i64 x21, .bool x22, .int .i64 x23] = w51 at h ⊢
      try dsimp only at h
      obtain ⟨b_a54, b_n55, b_c56, w57, r58, h⟩ := h
      obtain ⟨hh59, hh60, h⟩ := h
      refine WQ_act rfl gd0 (o_append rfl rfl r58) rfl (by exact ⟨⟨⟨trivial, depT (by kernel_rfl)⟩, fun _ => hh59⟩, fun _ => hh60⟩) ?_
      obtain ⟨b_a61, b_n62, b_c63, w64, r65, h⟩ := h
      refine WQ_act rfl gd0 (o_append rfl rfl r65) rfl (by exact ⟨⟨⟨trivial, depT (by kernel_rfl)⟩, depT (by kernel_rfl)⟩, depT (by kernel_rfl)⟩) ?_
      refine WQ_val rfl gd0 (o_nilCheck (by exact (congrArg Value.pointer q11))) rfl ?_
      refine WQ_val rfl gd0 (o_fieldAddr0 Try.underlying78 rfl Try.sizeOf26 rfl rfl rfl) rfl ?_
      obtain ⟨c67, h⟩ := h
      refine WQ_do rfl gd0 (o_store (v := .slice b_a54 b_n55 b_c56) Try.sizeOf26 rfl rfl rfl c67) (by exact ⟨⟨⟨trivial, depT (by kernel_rfl)⟩, depT (by kernel_rfl)⟩, depT (by kernel_rfl)⟩) ?_
      generalize hw66 : World.setCell w64 p10 (.slice b_a54 b_n55 b_c56) = w66 at h ⊢
      try dsimp only at h
      refine WQ_val rfl gd0 (o_nilCheck (by exact (congrArg Value.pointer q11))) rfl ?_
      refine WQ_val rfl gd0 (o_fieldAddr 1 Try.underlying78 rfl Try.sizeOf56 rfl rfl rfl) rfl ?_
      obtain ⟨c69, h⟩ := h
      refine WQ_do rfl gd0 (o_store (v := .slice b_a61 b_n62 b_c63) Try.sizeOf56 rfl rfl rfl c69) (by exact ⟨⟨⟨trivial, depT (by kernel_rfl)⟩, depT (by kernel_rfl)⟩, depT (by kernel_rfl)⟩) ?_
      generalize hw68 : World.setCell w66 (p10.add 1) (.slice b_a61 b_n62 b_c63) = w68 at h ⊢
      try dsimp only at h
      refine WQ_nil ?_
      refine ndE ?_
      exact gv0 rfl h
  · replace h := hf96
    have h := New.out h
    obtain ⟨hh73, hh74, h⟩ := h
    refine WQ_act rfl gd0 (o_buildSlice (e := 82) (ps := [(0, .agg #[.int .i64 x20, .int .i64 x21, .bool x22, .int .i64 x23])]) (cs := [.int .i64 x20, .int .i64 x21, .bool x22, .int .i64 x23]) (partCons rfl partNil) (fun w => by kernel_rfl)) rfl (by exact ⟨⟨⟨trivial, fun _ => hh73⟩, fun _ => hh74⟩, depT (by kernel_rfl)⟩) ?_
    generalize hp71 : fresh w9.drew = p71 at h ⊢
    generalize hw72 : push w9.drew 82 [.int .i64 x20, .int .i64 x21, .bool x22, .int .i64 x23] = w72 at h ⊢
    try dsimp only at h
    have h := New.out h
    obtain ⟨hh77, hh78, hh79, h⟩ := h
    refine WQ_act rfl gd0 (o_buildSlice (e := 3) (ps := [(0, .int .i64 id2)]) (cs := [.int .i64 id2]) (partCons rfl partNil) (fun w => by kernel_rfl)) rfl (by exact ⟨⟨⟨trivial, fun _ => hh77⟩, fun _ => hh78⟩, fun _ => hh79⟩) ?_
    generalize hp75 : fresh w72 = p75 at h ⊢
    generalize hw76 : push w72 3 [.int .i64 id2] = w76 at h ⊢
    try dsimp only at h
    obtain ⟨b_a80, b_n81, b_c82, w83, r84, h⟩ := h
    obtain ⟨hh85, hh86, h⟩ := h
    refine WQ_act rfl gd0 (o_append rfl rfl r84) rfl (by exact ⟨⟨⟨trivial, depT (by kernel_rfl)⟩, fun _ => hh85⟩, fun _ => hh86⟩) ?_
    obtain ⟨b_a87, b_n88, b_c89, w90, r91, h⟩ := h
    refine WQ_act rfl gd0 (o_append rfl rfl r91) rfl (by exact ⟨⟨⟨trivial, depT (by kernel_rfl)⟩, depT (by kernel_rfl)⟩, depT (by kernel_rfl)⟩) ?_
    refine WQ_val rfl gd0 (o_nilCheck (by exact (congrArg Value.pointer q11))) rfl ?_
    refine WQ_val rfl gd0 (o_fieldAddr0 Try.underlying78 rfl Try.sizeOf26 rfl rfl rfl) rfl ?_
    obtain ⟨c93, h⟩ := h
    refine WQ_do rfl gd0 (o_store (v := .slice b_a80 b_n81 b_c82) Try.sizeOf26 rfl rfl rfl c93) (by exact ⟨⟨⟨trivial, depT (by kernel_rfl)⟩, depT (by kernel_rfl)⟩, depT (by kernel_rfl)⟩) ?_
    generalize hw92 : World.setCell w90 p10 (.slice b_a80 b_n81 b_c82) = w92 at h ⊢
    try dsimp only at h
    refine WQ_val rfl gd0 (o_nilCheck (by exact (congrArg Value.pointer q11))) rfl ?_
    refine WQ_val rfl gd0 (o_fieldAddr 1 Try.underlying78 rfl Try.sizeOf56 rfl rfl rfl) rfl ?_
    obtain ⟨c95, h⟩ := h
    refine WQ_do rfl gd0 (o_store (v := .slice b_a87 b_n88 b_c89) Try.sizeOf56 rfl rfl rfl c95) (by exact ⟨⟨⟨trivial, depT (by kernel_rfl)⟩, depT (by kernel_rfl)⟩, depT (by kernel_rfl)⟩) ?_
    generalize hw94 : World.setCell w92 (p10.add 1) (.slice b_a87 b_n88 b_c89) = w94 at h ⊢
    try dsimp only at h
    refine WQ_nil ?_
    refine ndE ?_
    exact gv0 rfl h

def F37c38_b1 (x_a1 : Option Addr) (x_n2 : Nat) (target4 : Int) (i11 : Int) (j13 : Int) (w14 : World) (nx14 : Int → Int → World → Prop) (k : Value → World → Prop) : Prop :=
  if i11 < j13 then
  ∃ (p19 : Addr), x_a1 = some p19 ∧ (0 : Int) ≤ IntKind.i64.wrap (shr .u64 (IntKind.u64.wrap (IntKind.i64.wrap (i11 + j13))) 1) ∧ IntKind.i64.wrap (shr .u64 (IntKind.u64.wrap (IntKind.i64.wrap (i11 + j13))) 1) < (x_n2 : Int) ∧ ∃ (x21 x22 : Int) (x23 : Bool) (x_a24 : Option Addr) (x_n25 x_c26 : Nat) (x27 : Int), Cells w14 (p19.add (((IntKind.i64.wrap (shr .u64 (IntKind.u64.wrap (IntKind.i64.wrap (i11 + j13))) 1)).toNat) * 5)) 0 [.int .i64 x21, .int .i64 x22, .bool x23, .slice x_a24 x_n25 x_c26, .int .i64 x27] ∧ Does Try.prog 38 #[.agg #[.int .i64 x21, .int .i64 x22, .bool x23, .slice x_a24 x_n25 x_c26, .int .i64 x27], .int .i64 target4] w14 (fun v w29 => ∃ (x30 : Int), v = .int .i64 x30 ∧ if x30 < 0 then
    nx14 (IntKind.i64.wrap ((IntKind.i64.wrap (shr .u64 (IntKind.u64.wrap (IntKind.i64.wrap (i11 + j13))) 1)) + 1)) j13 w29
  else
    nx14 i11 (IntKind.i64.wrap (shr .u64 (IntKind.u64.wrap (IntKind.i64.wrap (i11 + j13))) 1)) w29)
else
  if i11 < (x_n2 : Int) then
    ∃ (p35 : Addr), x_a1 = some p35 ∧ (0 : Int) ≤ i11 ∧ i11 < (x_n2 : Int) ∧ ∃ (x37 x38 : Int) (x39 : Bool) (x_a40 : Option Addr) (x_n41 x_c42 : Nat) (x43 : Int), Cells w14 (p35.add (i11.toNat * 5)) 0 [.int .i64 x37, .int .i64 x38, .bool x39, .slice x_a40 x_n41 x_c42, .int .i64 x43] ∧ Does Try.prog 38 #[.agg #[.int .i64 x37, .int .i64 x38, .bool x39, .slice x_a40 x_n41 x_c42, .int .i64 x43], .int .i64 target4] w14 (fun v w45 => ∃ (x46 : Int), v = .int .i64 x46 ∧ k (.tuple #[.int .i64 i11, .bool (decide (x46 = 0))]) w45)
  else
    k (.tuple #[.int .i64 i11, .bool false]) w14
/-- slices.BinarySearchFunc   spacecraft hk.entry,spacecraft hk.entry,int  -/
def F37c38 (x_a1 : Option Addr) (x_n2 : Nat) (x_c3 : Nat) (target4 : Int) (w5 : World) (k : Value → World → Prop) : Prop :=
  LoopP (fun (s : Int × Int) w' nx' => F37c38_b1 x_a1 x_n2 target4 (s.1) (s.2) w' (fun x0 x1 w => nx' (x0, x1) w) k) (0, (x_n2 : Int)) w5
set_option maxRecDepth 100000 in
set_option maxHeartbeats 2000000 in
theorem w37c38 (x_a1 : Option Addr) (x_n2 : Nat) (x_c3 : Nat) (target4 : Int) (w5 : World) (k : Value → World → Prop) (h : F37c38 x_a1 x_n2 x_c3 target4 w5 k) : Does Try.prog 37 #[.slice x_a1 x_n2 x_c3, .int .i64 target4, .func (.func 38) #[] #[]] w5 k := by
  refine enter 49 Try.func37 rfl rfl rfl ?_
  intro ρ hρ
  have e0 := hρ 0 _ rfl
  have e1 := hρ 1 _ rfl
  have e2 := hρ 2 _ rfl
  unfold F37c38 at h
  refine WC_seq ?_
  refine WC_region ?_
  refine WL_val gd0 ((o_assign (v := .int .i64 0) rfl) _) rfl ?_
  refine WL_val gd0 ((o_assign (v := .bool false) rfl) _) rfl ?_
  refine WL_nil ?_
  refine nrm ?_
  refine WC_seq ?_
  refine WC_region ?_
  refine WL_val gd0 ((o_move (v := .slice x_a1 x_n2 x_c3) (by exact e0)) _) rfl ?_
  refine WL_val gd0 ((o_len Try.underlying45 rfl) _) rfl ?_
  refine WL_val gd0 ((o_assign (v := .int .i64 (x_n2 : Int)) rfl) _) rfl ?_
  refine WL_nil ?_
  refine nrm ?_
  refine WC_seq ?_
  refine WC_region ?_
  refine WL_val gd0 ((o_move (v := .int .i64 (x_n2 : Int)) rfl) _) rfl ?_
  refine WL_val gd0 ((o_assign (v := .int .i64 0) rfl) _) rfl ?_
  refine WL_val gd0 ((o_assign (v := .int .i64 (x_n2 : Int)) rfl) _) rfl ?_
  refine WL_nil ?_
  refine nrm ?_
  refine WC_seq ?_
  refine WC_block ?_
  obtain ⟨J14, ⟨n14, h0⟩, hr14⟩ := h
  refine WC_loop (fun n ρ w' => ∃ (i11 j13 : Int), ρ 9 = .int .i64 i11 ∧ ρ 10 = .int .i64 j13 ∧ ρ 0 = .slice x_a1 x_n2 x_c3 ∧ ρ 1 = .int .i64 target4 ∧ ρ 2 = .func (.func 38) #[] #[] ∧ ρ 8 = .int .i64 (x_n2 : Int) ∧ J14 n (i11, j13) w') ⟨n14, _, _, rfl, rfl, e0, e1, e2, rfl, h0⟩ ?_
  rintro n14 ρ w14 ⟨i11, j13, e9_10, e10_12, e0_6, e1_7, e2_8, e8_9, h⟩
  have h : F37c38_b1 x_a1 x_n2 target4 i11 j13 w14 (fun x0 x1 w => ∃ m, m < n14 ∧ J14 m (x0, x1) w) k := hr14 n14 (i11, j13) w14 h
  unfold F37c38_b1 at h
  refine WC_seq ?_
  refine WC_seq ?_
  refine WC_region ?_
  refine WL_val gd0 ((o_move (v := .int .i64 i11) (by exact e9_10)) _) rfl ?_
  refine WL_val gd0 ((o_move (v := .int .i64 j13) (by exact e10_12)) _) rfl ?_
  refine WL_val gd0 ((o_lss rfl rfl) _) rfl ?_
  refine WL_nil ?_
  refine nrm ?_
  refine WC_cond (t := (decide (i11 < j13))) rfl (fun hb16 => ?_) (fun hb16 => ?_)
  · rw [if_pos (of_decide_eq_true hb16)] at h
    refine WC_skip ?_
    refine nrm ?_
    refine WC_block ?_
    refine WC_seq ?_
    refine WC_region ?_
    refine WL_val gd0 ((o_move (v := .int .i64 i11) (by exact e9_10)) _) rfl ?_
    refine WL_val gd0 ((o_move (v := .int .i64 j13) (by exact e10_12)) _) rfl ?_
    refine WL_val gd0 ((o_add rfl rfl) _) rfl ?_
    refine WL_val gd0 ((o_conv Try.underlying3 Try.underlying98 rfl) _) rfl ?_
    refine WL_val gd0 ((o_shr rfl rfl (by decide)) _) rfl ?_
    refine WL_val gd0 ((o_conv Try.underlying98 Try.underlying3 rfl) _) rfl ?_
    refine WL_val gd0 ((o_assign (v := .int .i64 (IntKind.i64.wrap (shr .u64 (IntKind.u64.wrap (IntKind.i64.wrap (i11 + j13))) 1))) rfl) _) rfl ?_
    refine WL_nil ?_
    refine nrm ?_
    refine WC_seq ?_
    refine WC_region ?_
    refine WL_val gd0 ((o_move (v := .func (.func 38) #[] #[]) (by exact e2_8)) _) rfl ?_
    refine WL_val gd0 ((o_move (v := .slice x_a1 x_n2 x_c3) (by exact e0_6)) _) rfl ?_
    refine WL_val gd0 ((o_move (v := .int .i64 (IntKind.i64.wrap (shr .u64 (IntKind.u64.wrap (IntKind.i64.wrap (i11 + j13))) 1))) rfl) _) rfl ?_
    obtain ⟨p19, q20, h⟩ := h
    obtain ⟨l17, u18, h⟩ := h
    refine WL_val gd0 ((o_indexAddr Try.underlying45 Try.sizeOf66 (by exact (congrArg (fun z => Value.slice z x_n2 x_c3) q20)) rfl l17 u18) _) rfl ?_
    obtain ⟨x21, x22, x23, x_a24, x_n25, x_c26, x27, hc28, h⟩ := h
    refine WL_val gd0 (o_loadAgg (vs := [.int .i64 x21, .int .i64 x22, .bool x23, .slice x_a24 x_n25 x_c26, .int .i64 x27]) Try.isAgg66 Try.sizeOf66 rfl hc28) rfl ?_
    refine WL_val gd0 ((o_move (v := .int .i64 target4) (by exact e1_7)) _) rfl ?_
    refine WL_call gd0 (o_callVal (bs := []) (cs := []) Try.call38 rfl (argCons rfl (argCons rfl argNil)) _) rfl (h.mono ?_)
    rintro _ w29 ⟨x30, rfl, h⟩
    refine WL_val gd0 ((o_lss rfl rfl) _) rfl ?_
    refine WL_nil ?_
    refine nrm ?_
    refine WC_cond (t := (decide (x30 < 0))) rfl (fun hb31 => ?_) (fun hb31 => ?_)
    · rw [if_pos (of_decide_eq_true hb31)] at h
      refine WC_region ?_
      refine WL_val gd0 ((o_move (v := .int .i64 (IntKind.i64.wrap (shr .u64 (IntKind.u64.wrap (IntKind.i64.wrap (i11 + j13))) 1))) rfl) _) rfl ?_
      refine WL_val gd0 ((o_add rfl rfl) _) rfl ?_
      refine WL_val gd0 ((o_assign (v := .int .i64 (IntKind.i64.wrap ((IntKind.i64.wrap (shr .u64 (IntKind.u64.wrap (IntKind.i64.wrap (i11 + j13))) 1)) + 1))) rfl) _) rfl ?_
      refine WL_nil ?_
      refine nrmB ?_
      refine nrm ?_
      obtain ⟨m15, hm15, h⟩ := h
      exact ⟨m15, hm15, _, _, rfl, e10_12, e0_6, e1_7, e2_8, e8_9, h⟩
    · rw [if_neg (of_decide_eq_false hb31)] at h
      refine WC_region ?_
      refine WL_val gd0 ((o_move (v := .int .i64 (IntKind.i64.wrap (shr .u64 (IntKind.u64.wrap (IntKind.i64.wrap (i11 + j13))) 1))) rfl) _) rfl ?_
      refine WL_val gd0 ((o_assign (v := .int .i64 (IntKind.i64.wrap (shr .u64 (IntKind.u64.wrap (IntKind.i64.wrap (i11 + j13))) 1))) rfl) _) rfl ?_
      refine WL_nil ?_
      refine nrmB ?_
      refine nrm ?_
      obtain ⟨m15, hm15, h⟩ := h
      exact ⟨m15, hm15, _, _, e9_10, rfl, e0_6, e1_7, e2_8, e8_9, h⟩
  · rw [if_neg (of_decide_eq_false hb16)] at h
    refine WC_exit ?_
    refine exT ?_
    refine exT ?_
    refine exB ?_
    refine nrm ?_
    refine WC_seq ?_
    refine WC_region ?_
    refine WL_val gd0 ((o_move (v := .int .i64 i11) (by exact e9_10)) _) rfl ?_
    refine WL_val gd0 ((o_move (v := .int .i64 i11) (by exact e9_10)) _) rfl ?_
    refine WL_val gd0 ((o_move (v := .int .i64 (x_n2 : Int)) (by exact e8_9)) _) rfl ?_
    refine WL_val gd0 ((o_lss rfl rfl) _) rfl ?_
    refine WL_val gd0 ((o_move (v := .bool (decide (i11 < (x_n2 : Int)))) rfl) _) rfl ?_
    refine bsplit (decide (i11 < (x_n2 : Int))) (fun hb32 => ?_) (fun hb32 => ?_)
    · rw [if_pos (of_decide_eq_true hb32)] at h
      refine WL_val (gdY (b := (decide (i11 < (x_n2 : Int)))) 39 rfl rfl hb32) ((o_move (v := .func (.func 38) #[] #[]) (by exact e2_8)) _) rfl ?_
      refine WL_val (gdY (b := (decide (i11 < (x_n2 : Int)))) 39 rfl rfl hb32) ((o_move (v := .slice x_a1 x_n2 x_c3) (by exact e0_6)) _) rfl ?_
      refine WL_val (gdY (b := (decide (i11 < (x_n2 : Int)))) 39 rfl rfl hb32) ((o_move (v := .int .i64 i11) (by exact e9_10)) _) rfl ?_
      obtain ⟨p35, q36, h⟩ := h
      obtain ⟨l33, u34, h⟩ := h
      refine WL_val (gdY (b := (decide (i11 < (x_n2 : Int)))) 39 rfl rfl hb32) ((o_indexAddr Try.underlying45 Try.sizeOf66 (by exact (congrArg (fun z => Value.slice z x_n2 x_c3) q36)) rfl l33 u34) _) rfl ?_
      obtain ⟨x37, x38, x39, x_a40, x_n41, x_c42, x43, hc44, h⟩ := h
      refine WL_val (gdY (b := (decide (i11 < (x_n2 : Int)))) 39 rfl rfl hb32) (o_loadAgg (vs := [.int .i64 x37, .int .i64 x38, .bool x39, .slice x_a40 x_n41 x_c42, .int .i64 x43]) Try.isAgg66 Try.sizeOf66 rfl hc44) rfl ?_
      refine WL_val (gdY (b := (decide (i11 < (x_n2 : Int)))) 39 rfl rfl hb32) ((o_move (v := .int .i64 target4) (by exact e1_7)) _) rfl ?_
      refine WL_call (gdY (b := (decide (i11 < (x_n2 : Int)))) 39 rfl rfl hb32) (o_callVal (bs := []) (cs := []) Try.call38 rfl (argCons rfl (argCons rfl argNil)) _) rfl (h.mono ?_)
      rintro _ w45 ⟨x46, rfl, h⟩
      refine WL_val (gdY (b := (decide (i11 < (x_n2 : Int)))) 39 rfl rfl hb32) ((o_eql rfl rfl) _) rfl ?_
      refine WL_val gd0 ((o_pickT (v := .bool (decide (x46 = 0))) rfl hb32 rfl) _) rfl ?_
      refine WL_val gd0 ((o_assign (v := .int .i64 i11) rfl) _) rfl ?_
      refine WL_val gd0 ((o_assign (v := .bool (decide (x46 = 0))) rfl) _) rfl ?_
      refine WL_nil ?_
      refine nrm ?_
      refine WC_ret ?_
      refine rtE ?_
      exact gv2 rfl rfl rfl h
    · rw [if_neg (of_decide_eq_false hb32)] at h
      refine WL_skip (gdN (b := (decide (i11 < (x_n2 : Int)))) 39 rfl rfl hb32) rfl ?_
      refine WL_skip (gdN (b := (decide (i11 < (x_n2 : Int)))) 39 rfl rfl hb32) rfl ?_
      refine WL_skip (gdN (b := (decide (i11 < (x_n2 : Int)))) 39 rfl rfl hb32) rfl ?_
      refine WL_skip (gdN (b := (decide (i11 < (x_n2 : Int)))) 39 rfl rfl hb32) rfl ?_
      refine WL_skip (gdN (b := (decide (i11 < (x_n2 : Int)))) 39 rfl rfl hb32) rfl ?_
      refine WL_skip (gdN (b := (decide (i11 < (x_n2 : Int)))) 39 rfl rfl hb32) rfl ?_
      refine WL_skip (gdN (b := (decide (i11 < (x_n2 : Int)))) 39 rfl rfl hb32) rfl ?_
      refine WL_skip (gdN (b := (decide (i11 < (x_n2 : Int)))) 39 rfl rfl hb32) rfl ?_
      refine WL_val gd0 ((o_pickF (v := .bool false) rfl hb32 rfl) _) rfl ?_
      refine WL_val gd0 ((o_assign (v := .int .i64 i11) rfl) _) rfl ?_
      refine WL_val gd0 ((o_assign (v := .bool false) rfl) _) rfl ?_
      refine WL_nil ?_
      refine nrm ?_
      refine WC_ret ?_
      refine rtE ?_
      exact gv2 rfl rfl rfl h

/-- (*spacecraft hk.Service).find 1 -/
def F38 (x1 : Int) (x2 : Int) (x3 : Bool) (x_a4 : Option Addr) (x_n5 : Nat) (x_c6 : Nat) (x7 : Int) (id8 : Int) (w9 : World) (k : Value → World → Prop) : Prop :=
  New w9 66 [.int .i64 x1, .int .i64 x2, .bool x3, .slice x_a4 x_n5 x_c6, .int .i64 x7] (fun p10 w11 => ∃ (x12 : Int), w11.cell? p10 = some (.int .i64 x12) ∧ k (.int .i64 (IntKind.i64.wrap (x12 - id8))) w11)
set_option maxRecDepth 100000 in
set_option maxHeartbeats 2000000 in
theorem w38 (x1 : Int) (x2 : Int) (x3 : Bool) (x_a4 : Option Addr) (x_n5 : Nat) (x_c6 : Nat) (x7 : Int) (id8 : Int) (w9 : World) (k : Value → World → Prop) (h : F38 x1 x2 x3 x_a4 x_n5 x_c6 x7 id8 w9 k) : Does Try.prog 38 #[.agg #[.int .i64 x1, .int .i64 x2, .bool x3, .slice x_a4 x_n5 x_c6, .int .i64 x7], .int .i64 id8] w9 k := by
  refine enter 10 Try.func38 rfl rfl rfl ?_
  intro ρ hρ
  have e0 := hρ 0 _ rfl
  have e1 := hρ 1 _ rfl
  unfold F38 at h
  refine WC_seq ?_
  refine WC_region ?_
  have h := New.out h
  refine WL_val gd0 (o_box (v := .agg #[.int .i64 x1, .int .i64 x2, .bool x3, .slice x_a4 x_n5 x_c6, .int .i64 x7]) (cs := [.int .i64 x1, .int .i64 x2, .bool x3, .slice x_a4 x_n5 x_c6, .int .i64 x7]) (by exact e0) rfl) rfl ?_
  generalize hp10 : fresh w9 = p10 at h ⊢
  generalize hw11 : push w9 66 [.int .i64 x1, .int .i64 x2, .bool x3, .slice x_a4 x_n5 x_c6, .int .i64 x7] = w11 at h ⊢
  try dsimp only at h
  refine WL_val gd0 ((o_assign (v := .int .i64 0) rfl) _) rfl ?_
  refine WL_nil ?_
  refine nrm ?_
  refine WC_seq ?_
  refine WC_region ?_
  refine WL_val gd0 ((o_fieldAddr0 Try.underlying66 rfl Try.sizeOf31 rfl rfl rfl) _) rfl ?_
  refine WL_val gd0 ((o_fieldAddr0 Try.underlying31 rfl Try.sizeOf3 rfl rfl rfl) _) rfl ?_
  obtain ⟨x12, hc13, h⟩ := h
  refine WL_val gd0 (o_load Try.isAgg3 rfl hc13) rfl ?_
  refine WL_val gd0 ((o_move (v := .int .i64 id8) (by exact e1)) _) rfl ?_
  refine WL_val gd0 ((o_sub rfl rfl) _) rfl ?_
  refine WL_val gd0 ((o_assign (v := .int .i64 (IntKind.i64.wrap (x12 - id8))) rfl) _) rfl ?_
  refine WL_nil ?_
  refine nrm ?_
  refine WC_ret ?_
  refine rtE ?_
  exact gv1 rfl rfl h

/-- slices.rotateRight spacecraft hk.entry  -/
def F40 (s_a1 : Option Addr) (s_n2 : Nat) (s_c3 : Nat) (r4 : Int) (w5 : World) (k : Value → World → Prop) : Prop :=
  Does Try.prog 48 #[.slice s_a1 s_n2 s_c3, .int .i64 (IntKind.i64.wrap ((s_n2 : Int) - r4))] w5 (fun v w6 => v = .tuple #[] ∧ k (.tuple #[]) w6)
set_option maxRecDepth 100000 in
set_option maxHeartbeats 2000000 in
theorem w40 (s_a1 : Option Addr) (s_n2 : Nat) (s_c3 : Nat) (r4 : Int) (w5 : World) (k : Value → World → Prop) (h : F40 s_a1 s_n2 s_c3 r4 w5 k) : Does Try.prog 40 #[.slice s_a1 s_n2 s_c3, .int .i64 r4] w5 k := by
  refine enter 10 Try.func40 rfl rfl rfl ?_
  intro ρ hρ
  have e0 := hρ 0 _ rfl
  have e1 := hρ 1 _ rfl
  unfold F40 at h
  refine WC_region ?_
  refine WL_val gd0 ((o_move (v := .slice s_a1 s_n2 s_c3) (by exact e0)) _) rfl ?_
  refine WL_val gd0 ((o_move (v := .slice s_a1 s_n2 s_c3) (by exact e0)) _) rfl ?_
  refine WL_val gd0 ((o_len Try.underlying45 rfl) _) rfl ?_
  refine WL_val gd0 ((o_move (v := .int .i64 r4) (by exact e1)) _) rfl ?_
  refine WL_val gd0 ((o_sub rfl rfl) _) rfl ?_
  refine WL_call gd0 (o_call Try.call48 (argCons rfl (argCons rfl argNil)) _) rfl (h.mono ?_)
  rintro _ w6 ⟨rfl, h⟩
  refine WL_nil ?_
  refine ndE ?_
  exact gv0 rfl h

def F41_b1 (ids_n3 : Nat) (ids_a2 : Option Addr) (p1 : Option Addr) (out_a12 : Option Addr) (out_n13 : Nat) (out_c14 : Nat) (t18 : Int) (w19 : World) (k : Value → World → Prop) (nx19 : Option Addr → Nat → Nat → Int → World → Prop) : Prop :=
  if t18 < (ids_n3 : Int) then
  ∃ (p24 : Addr), ids_a2 = some p24 ∧ (0 : Int) ≤ t18 ∧ t18 < (ids_n3 : Int) ∧ ∃ (id26 : Int), w19.cell? (p24.add t18.toNat) = some (.int .i64 id26) ∧ Does Try.prog 50 #[.pointer p1, .int .i64 id26] w19 (fun v w28 => ∃ (r29 : Option Addr) (r30 : Int), v = .tuple #[.pointer r29, .int .i64 r30] ∧ if r30 ≠ 0 then
    k (.tuple #[.slice none 0 0, .int .i64 r30]) w28
  else
    ∃ (p32 : Addr), r29 = some p32 ∧ ∃ (x34 x35 : Int) (x36 : Bool) (x37 : Int), Cells w28 p32 0 [.int .i64 x34, .int .i64 x35, .bool x36, .int .i64 x37] ∧ New w28 82 [.int .i64 x34, .int .i64 x35, .bool x36, .int .i64 x37] (fun p39 w40 => ∃ (b_a41 : Option Addr) (b_n42 b_c43 : Nat) (w44 : World), (Builtin.append_ #[56, 56] 56 #[.slice out_a12 out_n13 out_c14, .slice (some p39) 1 1]).run Try.prog w40 = .ok (.slice b_a41 b_n42 b_c43) w44 ∧ nx19 b_a41 b_n42 b_c43 (IntKind.i64.wrap (t18 + 1)) w44))
else
  k (.tuple #[.slice out_a12 out_n13 out_c14, .int .i64 0]) w19
/-- (*spacecraft params.Pool).choose -/
def F41 (p1 : Option Addr) (ids_a2 : Option Addr) (ids_n3 : Nat) (ids_c4 : Nat) (w5 : World) (k : Value → World → Prop) : Prop :=
  Does Try.prog 49 #[.pointer p1] w5 (fun v w6 => ∃ (x7 : Bool), v = .bool x7 ∧ if (!x7) = true then
  k (.tuple #[.slice none 0 0, .int .i64 2]) w6
else
  if 256 < (ids_n3 : Int) then
    k (.tuple #[.slice none 0 0, .int .i64 6]) w6
  else
    LoopP (fun (s : Option Addr × Nat × Nat × Int) w' nx' => F41_b1 ids_n3 ids_a2 p1 (s.1) (s.2.1) (s.2.2.1) (s.2.2.2) w' k (fun x0 x1 x2 x3 w => nx' (x0, x1, x2, x3) w)) (none, 0, 0, 0) w6)
set_option maxRecDepth 100000 in
set_option maxHeartbeats 2000000 in
theorem w41 (p1 : Option Addr) (ids_a2 : Option Addr) (ids_n3 : Nat) (ids_c4 : Nat) (w5 : World) (k : Value → World → Prop) (h : F41 p1 ids_a2 ids_n3 ids_c4 w5 k) : Does Try.prog 41 #[.pointer p1, .slice ids_a2 ids_n3 ids_c4] w5 k := by
  refine enter 40 Try.func41 rfl rfl rfl ?_
  intro ρ hρ
  have e0 := hρ 0 _ rfl
  have e1 := hρ 1 _ rfl
  unfold F41 at h
  refine WC_seq ?_
  refine WC_region ?_
  refine WL_val gd0 ((o_assign (v := .slice none 0 0) rfl) _) rfl ?_
  refine WL_val gd0 ((o_assign (v := .int .i64 0) rfl) _) rfl ?_
  refine WL_nil ?_
  refine nrm ?_
  refine WC_seq ?_
  refine WC_seq ?_
  refine WC_region ?_
  refine WL_val gd0 ((o_move (v := .pointer p1) (by exact e0)) _) rfl ?_
  refine WL_call gd0 (o_call Try.call49 (argCons rfl argNil) _) rfl (h.mono ?_)
  rintro _ w6 ⟨x7, rfl, h⟩
  refine WL_val gd0 ((o_not rfl) _) rfl ?_
  refine WL_nil ?_
  refine nrm ?_
  refine WC_cond (t := (!x7)) rfl (fun hb8 => ?_) (fun hb8 => ?_)
  · rw [if_pos hb8] at h
    refine WC_seq ?_
    refine WC_region ?_
    refine WL_val gd0 ((o_assign (v := .slice none 0 0) rfl) _) rfl ?_
    refine WL_val gd0 ((o_assign (v := .int .i64 2) rfl) _) rfl ?_
    refine WL_nil ?_
    refine nrm ?_
    refine WC_ret ?_
    refine rtT ?_
    refine rtE ?_
    exact gv2 rfl rfl rfl h
  · rw [if_neg (neT hb8)] at h
    refine WC_skip ?_
    refine nrm ?_
    refine WC_seq ?_
    refine WC_seq ?_
    refine WC_region ?_
    refine WL_val gd0 ((o_move (v := .slice ids_a2 ids_n3 ids_c4) (by exact e1)) _) rfl ?_
    refine WL_val gd0 ((o_len Try.underlying26 rfl) _) rfl ?_
    refine WL_val gd0 ((o_gtr rfl rfl) _) rfl ?_
    refine WL_nil ?_
    refine nrm ?_
    refine WC_cond (t := (decide (256 < (ids_n3 : Int)))) rfl (fun hb9 => ?_) (fun hb9 => ?_)
    · rw [if_pos (of_decide_eq_true hb9)] at h
      refine WC_seq ?_
      refine WC_region ?_
      refine WL_val gd0 ((o_assign (v := .slice none 0 0) rfl) _) rfl ?_
      refine WL_val gd0 ((o_assign (v := .int .i64 6) rfl) _) rfl ?_
      refine WL_nil ?_
      refine nrm ?_
      refine WC_ret ?_
      refine rtT ?_
      refine rtE ?_
      exact gv2 rfl rfl rfl h
    · rw [if_neg (of_decide_eq_false hb9)] at h
      refine WC_skip ?_
      refine nrm ?_
      refine WC_seq ?_
      refine WC_region ?_
      refine WL_val gd0 ((o_assign (v := .slice none 0 0) rfl) _) rfl ?_
      refine WL_nil ?_
      refine nrm ?_
      refine WC_seq ?_
      refine WC_seq ?_
      refine WC_region ?_
      refine WL_val gd0 ((o_move (v := .slice ids_a2 ids_n3 ids_c4) (by exact e1)) _) rfl ?_
      refine WL_val gd0 ((o_len Try.underlying26 rfl) _) rfl ?_
      refine WL_val gd0 ((o_move (v := .int .i64 0) rfl) _) rfl ?_
      refine WL_nil ?_
      refine nrm ?_
      refine WC_block ?_
      obtain ⟨J19, ⟨n19, h0⟩, hr19⟩ := h
      refine WC_loop (fun n ρ w' => ∃ (out_a12 : Option Addr) (out_n13 out_c14 : Nat) (t18 : Int), ρ 6 = .slice out_a12 out_n13 out_c14 ∧ ρ 19 = .int .i64 t18 ∧ ρ 0 = .pointer p1 ∧ ρ 17 = .slice ids_a2 ids_n3 ids_c4 ∧ ρ 18 = .int .i64 (ids_n3 : Int) ∧ J19 n (out_a12, out_n13, out_c14, t18) w') ⟨n19, _, _, _, _, rfl, rfl, e0, rfl, rfl, h0⟩ ?_
      rintro n19 ρ w19 ⟨out_a12, out_n13, out_c14, t18, e6_11, e19_17, e0_10, e17_15, e18_16, h⟩
      have h : F41_b1 ids_n3 ids_a2 p1 out_a12 out_n13 out_c14 t18 w19 k (fun x0 x1 x2 x3 w => ∃ m, m < n19 ∧ J19 m (x0, x1, x2, x3) w) := hr19 n19 (out_a12, out_n13, out_c14, t18) w19 h
      unfold F41_b1 at h
      refine WC_seq ?_
      refine WC_region ?_
      refine WL_val gd0 ((o_lss (by exact e19_17) (by exact e18_16)) _) rfl ?_
      refine WL_nil ?_
      refine nrm ?_
      refine WC_seq ?_
      refine WC_cond (t := (decide (t18 < (ids_n3 : Int)))) rfl (fun hb21 => ?_) (fun hb21 => ?_)
      · rw [if_pos (of_decide_eq_true hb21)] at h
        refine WC_skip ?_
        refine nrm ?_
        refine WC_seq ?_
        refine WC_block ?_
        refine WC_seq ?_
        refine WC_region ?_
        obtain ⟨p24, q25, h⟩ := h
        obtain ⟨l22, u23, h⟩ := h
        refine WL_val gd0 ((o_indexAddr1 Try.underlying26 Try.sizeOf3 (by exact (Eq.trans e17_15 (congrArg (fun z => Value.slice z ids_n3 ids_c4) q25))) (by exact e19_17) l22 u23) _) rfl ?_
        obtain ⟨id26, hc27, h⟩ := h
        refine WL_val gd0 (o_load Try.isAgg3 rfl hc27) rfl ?_
        refine WL_val gd0 ((o_assign (v := .int .i64 id26) rfl) _) rfl ?_
        refine WL_nil ?_
        refine nrm ?_
        refine WC_seq ?_
        refine WC_region ?_
        refine WL_val gd0 ((o_move (v := .pointer p1) (by exact e0_10)) _) rfl ?_
        refine WL_val gd0 ((o_move (v := .int .i64 id26) rfl) _) rfl ?_
        refine WL_call gd0 (o_call Try.call50 (argCons rfl (argCons rfl argNil)) _) rfl (h.mono ?_)
        rintro _ w28 ⟨r29, r30, rfl, h⟩
        refine WL_val gd0 ((o_move (v := .tuple #[.pointer r29, .int .i64 r30]) rfl) _) rfl ?_
        refine WL_val gd0 ((o_extract (vs := [.pointer r29, .int .i64 r30]) (r := .pointer r29) rfl rfl) _) rfl ?_
        refine WL_val gd0 ((o_extract (vs := [.pointer r29, .int .i64 r30]) (r := .int .i64 r30) rfl rfl) _) rfl ?_
        refine WL_val gd0 ((o_assign (v := .pointer r29) rfl) _) rfl ?_
        refine WL_val gd0 ((o_assign (v := .int .i64 r30) rfl) _) rfl ?_
        refine WL_nil ?_
        refine nrm ?_
        refine WC_seq ?_
        refine WC_seq ?_
        refine WC_region ?_
        refine WL_val gd0 ((o_move (v := .int .i64 r30) rfl) _) rfl ?_
        refine WL_val gd0 ((o_neq rfl rfl) _) rfl ?_
        refine WL_nil ?_
        refine nrm ?_
        refine WC_cond (t := (decide (r30 ≠ 0))) rfl (fun hb31 => ?_) (fun hb31 => ?_)
        · rw [if_pos (of_decide_eq_true hb31)] at h
          refine WC_seq ?_
          refine WC_region ?_
          refine WL_val gd0 ((o_move (v := .int .i64 r30) rfl) _) rfl ?_
          refine WL_val gd0 ((o_assign (v := .slice none 0 0) rfl) _) rfl ?_
          refine WL_val gd0 ((o_assign (v := .int .i64 r30) rfl) _) rfl ?_
          refine WL_nil ?_
          refine nrm ?_
          refine WC_ret ?_
          refine rtT ?_
          refine rtB ?_
          refine rtT ?_
          refine rtT ?_
          refine rtB ?_
          refine rtT ?_
          refine rtE ?_
          exact gv2 rfl rfl rfl h
        · rw [if_neg (of_decide_eq_false hb31)] at h
          refine WC_skip ?_
          refine nrm ?_
          refine WC_region ?_
          refine WL_val gd0 ((o_move (v := .slice out_a12 out_n13 out_c14) (by exact e6_11)) _) rfl ?_
          refine WL_val gd0 ((o_move (v := .pointer r29) rfl) _) rfl ?_
          obtain ⟨p32, q33, h⟩ := h
          refine WL_val gd0 ((o_nilCheck (by exact (congrArg Value.pointer q33))) _) rfl ?_
          obtain ⟨x34, x35, x36, x37, hc38, h⟩ := h
          refine WL_val gd0 (o_loadAgg (vs := [.int .i64 x34, .int .i64 x35, .bool x36, .int .i64 x37]) Try.isAgg82 Try.sizeOf82 rfl hc38) rfl ?_
          have h := New.out h
          refine WL_val gd0 (o_buildSlice (e := 82) (ps := [(0, .agg #[.int .i64 x34, .int .i64 x35, .bool x36, .int .i64 x37])]) (cs := [.int .i64 x34, .int .i64 x35, .bool x36, .int .i64 x37]) (partCons rfl partNil) (fun w => by kernel_rfl)) rfl ?_
          generalize hp39 : fresh w28 = p39 at h ⊢
          generalize hw40 : push w28 82 [.int .i64 x34, .int .i64 x35, .bool x36, .int .i64 x37] = w40 at h ⊢
          try dsimp only at h
          obtain ⟨b_a41, b_n42, b_c43, w44, r45, h⟩ := h
          refine WL_val gd0 (o_append rfl rfl r45) rfl ?_
          refine WL_val gd0 ((o_assign (v := .slice b_a41 b_n42 b_c43) rfl) _) rfl ?_
          refine WL_nil ?_
          refine nrmB ?_
          refine nrm ?_
          refine WC_region ?_
          refine WL_val gd0 ((o_add (by exact e19_17) rfl) _) rfl ?_
          refine WL_val gd0 ((o_move (v := .int .i64 (IntKind.i64.wrap (t18 + 1))) rfl) _) rfl ?_
          refine WL_nil ?_
          refine nrm ?_
          obtain ⟨m20, hm20, h⟩ := h
          exact ⟨m20, hm20, _, _, _, _, rfl, rfl, e0_10, e17_15, e18_16, h⟩
      · rw [if_neg (of_decide_eq_false hb21)] at h
        refine WC_exit ?_
        refine exT ?_
        refine exT ?_
        refine exB ?_
        refine nrm ?_
        refine WC_seq ?_
        refine WC_region ?_
        refine WL_val gd0 ((o_move (v := .slice out_a12 out_n13 out_c14) (by exact e6_11)) _) rfl ?_
        refine WL_val gd0 ((o_assign (v := .slice out_a12 out_n13 out_c14) rfl) _) rfl ?_
        refine WL_val gd0 ((o_assign (v := .int .i64 0) rfl) _) rfl ?_
        refine WL_nil ?_
        refine nrm ?_
        refine WC_ret ?_
        refine rtE ?_
        exact gv2 rfl rfl rfl h

/-- spacecraft bits.NewWriter -/
def F42 (w1 : World) (k : Value → World → Prop) : Prop :=
  New w1 103 [.bool true, .slice none 0 0, .int .i64 0] (fun p2 w3 => k (.pointer (some p2)) w3)
set_option maxRecDepth 100000 in
set_option maxHeartbeats 2000000 in
theorem w42 (w1 : World) (k : Value → World → Prop) (h : F42 w1 k) : Does Try.prog 42 #[] w1 k := by
  refine enter 3 Try.func42 rfl rfl rfl ?_
  intro ρ hρ
  unfold F42 at h
  refine WC_seq ?_
  refine WC_region ?_
  refine WL_val gd0 ((o_assign (v := .pointer none) rfl) _) rfl ?_
  refine WL_nil ?_
  refine nrm ?_
  refine WC_seq ?_
  refine WC_region ?_
  refine WL_val gd0 ((o_build (ps := [(0, .bool true)]) (v := .agg #[.bool true, .slice none 0 0, .int .i64 0]) (partCons rfl partNil) (fun w => by kernel_rfl)) _) rfl ?_
  have h := New.out h
  refine WL_val gd0 (o_box (v := .agg #[.bool true, .slice none 0 0, .int .i64 0]) (cs := [.bool true, .slice none 0 0, .int .i64 0]) rfl rfl) rfl ?_
  generalize hp2 : fresh w1 = p2 at h ⊢
  generalize hw3 : push w1 103 [.bool true, .slice none 0 0, .int .i64 0] = w3 at h ⊢
  try dsimp only at h
  refine WL_val gd0 ((o_assign (v := .pointer (some p2)) rfl) _) rfl ?_
  refine WL_nil ?_
  refine nrm ?_
  refine WC_ret ?_
  refine rtE ?_
  exact gv1 rfl rfl h

def F43_j3 (width3 : Int) (t20 : Int) (w1 : Option Addr) (n2 : Int) (w30 : World) (nx21 : Int → World → Prop) : Prop :=
  (0 : Int) ≤ IntKind.i64.wrap ((IntKind.i64.wrap (width3 - 1)) - t20) ∧ ∃ (p32 : Addr), w1 = some p32 ∧ ∃ (x_a34 : Option Addr) (x_n35 x_c36 : Nat), w30.drew.cell? (p32.add 1) = some (.slice x_a34 x_n35 x_c36) ∧ ∃ (x38 : Int), w30.drew.cell? (p32.add 2) = some (.int .i64 x38) ∧ ∃ (p42 : Addr), x_a34 = some p42 ∧ (0 : Int) ≤ IntKind.i64.wrap (Int.tdiv x38 8) ∧ IntKind.i64.wrap (Int.tdiv x38 8) < (x_n35 : Int) ∧ ∃ (x44 : Int), w30.drew.cell? (p42.add ((IntKind.i64.wrap (Int.tdiv x38 8)).toNat)) = some (.int .u8 x44) ∧ ∃ (x46 : Int), w30.drew.cell? (p32.add 2) = some (.int .i64 x46) ∧ (0 : Int) ≤ IntKind.i64.wrap (7 - (Int.tmod x46 8)) ∧ (0 : Int) ≤ IntKind.i64.wrap (Int.tdiv x38 8) ∧ IntKind.i64.wrap (Int.tdiv x38 8) < (x_n35 : Int) ∧ Put w30.drew (p42.add ((IntKind.i64.wrap (Int.tdiv x38 8)).toNat)) (.int .u8 (bor .u8 x44 (shl .u8 (IntKind.u8.wrap (band .u64 (shr .u64 n2 (IntKind.i64.wrap ((IntKind.i64.wrap (width3 - 1)) - t20))) 1)) (IntKind.i64.wrap (7 - (Int.tmod x46 8)))))) (fun w51 => ∃ (x53 : Int), w51.cell? (p32.add 2) = some (.int .i64 x53) ∧ Put w51 (p32.add 2) (.int .i64 (IntKind.i64.wrap (x53 + 1))) (fun w55 => nx21 (IntKind.i64.wrap (t20 + 1)) w55))
def F43_b2 (width3 : Int) (w1 : Option Addr) (n2 : Int) (t20 : Int) (w21 : World) (nx21 : Int → World → Prop) (k : Value → World → Prop) : Prop :=
  if t20 < width3 then
  ∃ (p57 : Addr), w1 = some p57 ∧ ∃ (x59 : Int), w21.cell? (p57.add 2) = some (.int .i64 x59) ∧ if (Int.tmod x59 8) = 0 then
    ∃ (x_a62 : Option Addr) (x_n63 x_c64 : Nat), w21.cell? (p57.add 1) = some (.slice x_a62 x_n63 x_c64) ∧ New w21 5 [.int .u8 0] (fun p66 w67 => ∃ (b_a68 : Option Addr) (b_n69 b_c70 : Nat) (w71 : World), (Builtin.append_ #[38, 38] 38 #[.slice x_a62 x_n63 x_c64, .slice (some p66) 1 1]).run Try.prog w67 = .ok (.slice b_a68 b_n69 b_c70) w71 ∧ Put w71 (p57.add 1) (.slice b_a68 b_n69 b_c70) (fun w73 => F43_j3 width3 t20 w1 n2 w73 nx21))
  else
    F43_j3 width3 t20 w1 n2 w21 nx21
else
  k (.pointer w1) w21
def F43_j1 (w1 : Option Addr) (width3 : Int) (n2 : Int) (t12 : Bool) (w13 : World) (k : Value → World → Prop) : Prop :=
  if t12 = true then
  k (.pointer w1) w13
else
  LoopP (fun (s : Int) w' nx' => F43_b2 width3 w1 n2 s w' (fun x0 w => nx' x0 w) k) 0 w13
/-- (*spacecraft bits.Writer).Put -/
def F43 (w1 : Option Addr) (n2 : Int) (width3 : Int) (w4 : World) (k : Value → World → Prop) : Prop :=
  Does Try.prog 51 #[.pointer w1] w4 (fun v w5 => ∃ (x6 : Bool), v = .bool x6 ∧ if (!x6) = true then
  k (.pointer none) w5
else
  if width3 < 0 then
    F43_j1 w1 width3 n2 true w5 k
  else
    F43_j1 w1 width3 n2 (decide (64 < width3)) w5 k)
set_option maxRecDepth 100000 in
set_option maxHeartbeats 2000000 in
theorem w43 (w1 : Option Addr) (n2 : Int) (width3 : Int) (w4 : World) (k : Value → World → Prop) (h : F43 w1 n2 width3 w4 k) : Does Try.prog 43 #[.pointer w1, .int .u64 n2, .int .i64 width3] w4 k := by
  refine enter 76 Try.func43 rfl rfl rfl ?_
  intro ρ hρ
  have e0 := hρ 0 _ rfl
  have e1 := hρ 1 _ rfl
  have e2 := hρ 2 _ rfl
  unfold F43 at h
  refine WC_seq ?_
  refine WC_region ?_
  refine WL_val gd0 ((o_assign (v := .pointer none) rfl) _) rfl ?_
  refine WL_nil ?_
  refine nrm ?_
  refine WC_seq ?_
  refine WC_seq ?_
  refine WC_region ?_
  refine WL_val gd0 ((o_move (v := .pointer w1) (by exact e0)) _) rfl ?_
  refine WL_call gd0 (o_call Try.call51 (argCons rfl argNil) _) rfl (h.mono ?_)
  rintro _ w5 ⟨x6, rfl, h⟩
  refine WL_val gd0 ((o_not rfl) _) rfl ?_
  refine WL_nil ?_
  refine nrm ?_
  refine WC_cond (t := (!x6)) rfl (fun hb7 => ?_) (fun hb7 => ?_)
  · rw [if_pos hb7] at h
    refine WC_seq ?_
    refine WC_region ?_
    refine WL_val gd0 ((o_assign (v := .pointer none) rfl) _) rfl ?_
    refine WL_nil ?_
    refine nrm ?_
    refine WC_ret ?_
    refine rtT ?_
    refine rtE ?_
    exact gv1 rfl rfl h
  · rw [if_neg (neT hb7)] at h
    refine WC_skip ?_
    refine nrm ?_
    refine WC_seq ?_
    refine WC_cut (fun ρ w' => ∃ (t12 : Bool), ρ 17 = .bool t12 ∧ ρ 0 = .pointer w1 ∧ ρ 1 = .int .u64 n2 ∧ ρ 2 = .int .i64 width3 ∧ F43_j1 w1 width3 n2 t12 w' k) ?_ ?_
    · refine WC_region ?_
      refine WL_val gd0 ((o_move (v := .int .i64 width3) (by exact e2)) _) rfl ?_
      refine WL_val gd0 ((o_lss rfl rfl) _) rfl ?_
      refine WL_val gd0 ((o_move (v := .bool (decide (width3 < 0))) rfl) _) rfl ?_
      refine bsplit (decide (width3 < 0)) (fun hb75 => ?_) (fun hb75 => ?_)
      · rw [if_pos (of_decide_eq_true hb75)] at h
        refine WL_skip (gdN (b := (decide (width3 < 0))) 14 rfl rfl hb75) rfl ?_
        refine WL_skip (gdN (b := (decide (width3 < 0))) 14 rfl rfl hb75) rfl ?_
        refine WL_val gd0 ((o_pickT (v := .bool true) rfl hb75 rfl) _) rfl ?_
        refine WL_nil ?_
        refine nrm ?_
        exact ⟨_, rfl, e0, e1, e2, h⟩
      · rw [if_neg (of_decide_eq_false hb75)] at h
        refine WL_val (gdY (b := (decide (width3 < 0))) 14 rfl rfl hb75) ((o_move (v := .int .i64 width3) (by exact e2)) _) rfl ?_
        refine WL_val (gdY (b := (decide (width3 < 0))) 14 rfl rfl hb75) ((o_gtr rfl rfl) _) rfl ?_
        refine WL_val gd0 ((o_pickF (v := .bool (decide (64 < width3))) rfl hb75 rfl) _) rfl ?_
        refine WL_nil ?_
        refine nrm ?_
        exact ⟨_, rfl, e0, e1, e2, h⟩
    · rintro ρ w13 ⟨t12, e17_11, e0_8, e1_9, e2_10, h⟩
      unfold F43_j1 at h
      refine WC_cond (t := t12) (by exact e17_11) (fun hb14 => ?_) (fun hb14 => ?_)
      · rw [if_pos hb14] at h
        refine WC_seq ?_
        refine WC_region ?_
        refine WL_val gd0 ((o_move (v := .pointer w1) (by exact e0_8)) _) rfl ?_
        refine WL_val gd0 ((o_assign (v := .pointer w1) rfl) _) rfl ?_
        refine WL_nil ?_
        refine nrm ?_
        refine WC_ret ?_
        refine rtT ?_
        refine rtE ?_
        exact gv1 rfl rfl h
      · rw [if_neg (neT hb14)] at h
        refine WC_skip ?_
        refine nrm ?_
        refine WC_seq ?_
        refine WC_seq ?_
        refine WC_region ?_
        refine WL_val gd0 ((o_move (v := .int .i64 width3) (by exact e2_10)) _) rfl ?_
        refine WL_val gd0 ((o_move (v := .int .i64 0) rfl) _) rfl ?_
        refine WL_nil ?_
        refine nrm ?_
        refine WC_block ?_
        obtain ⟨J21, ⟨n21, h0⟩, hr21⟩ := h
        refine WC_loop (fun n ρ w' => ∃ (t20 : Int), ρ 20 = .int .i64 t20 ∧ ρ 0 = .pointer w1 ∧ ρ 1 = .int .u64 n2 ∧ ρ 2 = .int .i64 width3 ∧ ρ 19 = .int .i64 width3 ∧ J21 n t20 w') ⟨n21, _, rfl, e0_8, e1_9, e2_10, rfl, h0⟩ ?_
        rintro n21 ρ w21 ⟨t20, e20_19, e0_15, e1_16, e2_17, e19_18, h⟩
        have h : F43_b2 width3 w1 n2 t20 w21 (fun x0 w => ∃ m, m < n21 ∧ J21 m x0 w) k := hr21 n21 t20 w21 h
        unfold F43_b2 at h
        refine WC_seq ?_
        refine WC_region ?_
        refine WL_val gd0 ((o_lss (by exact e20_19) (by exact e19_18)) _) rfl ?_
        refine WL_nil ?_
        refine nrm ?_
        refine WC_seq ?_
        refine WC_cond (t := (decide (t20 < width3))) rfl (fun hb23 => ?_) (fun hb23 => ?_)
        · rw [if_pos (of_decide_eq_true hb23)] at h
          refine WC_skip ?_
          refine nrm ?_
          refine WC_seq ?_
          refine WC_block ?_
          refine WC_seq ?_
          refine WC_region ?_
          refine WL_val gd0 ((o_move (v := .int .i64 t20) (by exact e20_19)) _) rfl ?_
          refine WL_val gd0 ((o_assign (v := .int .i64 t20) rfl) _) rfl ?_
          refine WL_nil ?_
          refine nrm ?_
          refine WC_cut (fun ρ w' => ρ 0 = .pointer w1 ∧ ρ 1 = .int .u64 n2 ∧ ρ 2 = .int .i64 width3 ∧ ρ 7 = .int .i64 t20 ∧ ρ 19 = .int .i64 width3 ∧ ρ 20 = .int .i64 t20 ∧ F43_j3 width3 t20 w1 n2 w' (fun x0 w => ∃ m, m < n21 ∧ J21 m x0 w)) ?_ ?_
          · refine WC_seq ?_
            refine WC_region ?_
            refine WL_val gd0 ((o_move (v := .pointer w1) (by exact e0_15)) _) rfl ?_
            obtain ⟨p57, q58, h⟩ := h
            refine WL_val gd0 ((o_nilCheck (by exact (congrArg Value.pointer q58))) _) rfl ?_
            refine WL_val gd0 ((o_fieldAddr 2 Try.underlying103 rfl Try.sizeOf3 rfl rfl rfl) _) rfl ?_
            obtain ⟨x59, hc60, h⟩ := h
            refine WL_val gd0 (o_load Try.isAgg3 rfl hc60) rfl ?_
            refine WL_val gd0 ((fun w => o_rem rfl rfl w (by decide)) _) rfl ?_
            refine WL_val gd0 ((o_eql rfl rfl) _) rfl ?_
            refine WL_nil ?_
            refine nrm ?_
            refine WC_cond (t := (decide ((Int.tmod x59 8) = 0))) rfl (fun hb61 => ?_) (fun hb61 => ?_)
            · rw [if_pos (of_decide_eq_true hb61)] at h
              refine WC_region ?_
              refine WL_val gd0 ((o_move (v := .pointer w1) (by exact e0_15)) _) rfl ?_
              refine WL_val gd0 ((o_move (v := .pointer w1) (by exact e0_15)) _) rfl ?_
              refine WL_val gd0 ((o_nilCheck (by exact (congrArg Value.pointer q58))) _) rfl ?_
              refine WL_val gd0 ((o_fieldAddr 1 Try.underlying103 rfl Try.sizeOf38 rfl rfl rfl) _) rfl ?_
              obtain ⟨x_a62, x_n63, x_c64, hc65, h⟩ := h
              refine WL_val gd0 (o_load Try.isAgg38 rfl hc65) rfl ?_
              have h := New.out h
              refine WL_val gd0 (o_buildSlice (e := 5) (ps := [(0, .int .u8 0)]) (cs := [.int .u8 0]) (partCons rfl partNil) (fun w => by kernel_rfl)) rfl ?_
              generalize hp66 : fresh w21 = p66 at h ⊢
              generalize hw67 : push w21 5 [.int .u8 0] = w67 at h ⊢
              try dsimp only at h
              obtain ⟨b_a68, b_n69, b_c70, w71, r72, h⟩ := h
              refine WL_val gd0 (o_append rfl rfl r72) rfl ?_
              refine WL_val gd0 ((o_nilCheck (by exact (congrArg Value.pointer q58))) _) rfl ?_
              refine WL_val gd0 ((o_fieldAddr 1 Try.underlying103 rfl Try.sizeOf38 rfl rfl rfl) _) rfl ?_
              obtain ⟨c74, h⟩ := h
              refine WL_act gd0 (o_store (v := .slice b_a68 b_n69 b_c70) Try.sizeOf38 rfl rfl rfl c74) ?_
              generalize hw73 : World.setCell w71 (p57.add 1) (.slice b_a68 b_n69 b_c70) = w73 at h ⊢
              try dsimp only at h
              refine WL_nil ?_
              refine nrm ?_
              exact ⟨e0_15, e1_16, e2_17, rfl, e19_18, e20_19, h⟩
            · rw [if_neg (of_decide_eq_false hb61)] at h
              refine WC_skip ?_
              refine nrm ?_
              exact ⟨e0_15, e1_16, e2_17, rfl, e19_18, e20_19, h⟩
          · rintro ρ w30 ⟨e0_24, e1_25, e2_26, e7_27, e19_28, e20_29, h⟩
            unfold F43_j3 at h
            refine WC_seq ?_
            refine WC_region ?_
            refine WL_val gd0 ((o_move (v := .int .u64 n2) (by exact e1_25)) _) rfl ?_
            refine WL_val gd0 ((o_move (v := .int .i64 width3) (by exact e2_26)) _) rfl ?_
            refine WL_val gd0 ((o_sub rfl rfl) _) rfl ?_
            refine WL_val gd0 ((o_move (v := .int .i64 t20) (by exact e7_27)) _) rfl ?_
            refine WL_val gd0 ((o_sub rfl rfl) _) rfl ?_
            obtain ⟨c31, h⟩ := h
            refine WL_val gd0 ((o_shr rfl rfl c31) _) rfl ?_
            refine WL_val gd0 ((o_and rfl rfl) _) rfl ?_
            refine WL_val gd0 ((o_conv Try.underlying94 Try.underlying5 rfl) _) rfl ?_
            refine WL_val gd0 ((o_assign (v := .int .u8 (IntKind.u8.wrap (band .u64 (shr .u64 n2 (IntKind.i64.wrap ((IntKind.i64.wrap (width3 - 1)) - t20))) 1))) rfl) _) rfl ?_
            refine WL_nil ?_
            refine nrm ?_
            refine WC_seq ?_
            refine WC_draws [21] (.look 0 (.look 1 (.look 2 (.look 3 (.look 4 (.look 5 (.look 6 (.look 7 (.look 8 (.look 9 (.look 10 (.look 11 (.look 12 (.look 13 (.look 14 (.look 15 (.look 16 (.look 17 (.look 18 (.look 19 (.look 20 (.act 21 .nil)))))))))))))))))))))) Try.mixed (by kernel_rfl) ?_
            refine WQ_val rfl gd0 (o_move (v := .pointer w1) (by exact e0_24)) rfl ?_
            obtain ⟨p32, q33, h⟩ := h
            refine WQ_val rfl gd0 (o_nilCheck (by exact (congrArg Value.pointer q33))) rfl ?_
            refine WQ_val rfl gd0 (o_fieldAddr 1 Try.underlying103 rfl Try.sizeOf38 rfl rfl rfl) rfl ?_
            obtain ⟨x_a34, x_n35, x_c36, hc37, h⟩ := h
            refine WQ_look (fun w => w.cell? (p32.add 1) = some (.slice x_a34 x_n35 x_c36)) rfl gd0 (fun w hc => (o_load Try.isAgg38 rfl hc)) hc37 rfl ?_
            refine WQ_val rfl gd0 (o_move (v := .pointer w1) (by exact e0_24)) rfl ?_
            refine WQ_val rfl gd0 (o_nilCheck (by exact (congrArg Value.pointer q33))) rfl ?_
            refine WQ_val rfl gd0 (o_fieldAddr 2 Try.underlying103 rfl Try.sizeOf3 rfl rfl rfl) rfl ?_
            obtain ⟨x38, hc39, h⟩ := h
            refine WQ_look (fun w => w.cell? (p32.add 2) = some (.int .i64 x38)) rfl gd0 (fun w hc => (o_load Try.isAgg3 rfl hc)) hc39 rfl ?_
            refine WQ_val rfl gd0 (fun w => o_quo rfl rfl w (by decide)) rfl ?_
            obtain ⟨p42, q43, h⟩ := h
            obtain ⟨l40, u41, h⟩ := h
            refine WQ_val rfl gd0 (o_indexAddr1 Try.underlying38 Try.sizeOf5 (by exact (congrArg (fun z => Value.slice z x_n35 x_c36) q43)) rfl l40 u41) rfl ?_
            obtain ⟨x44, hc45, h⟩ := h
            refine WQ_look (fun w => w.cell? (p42.add ((IntKind.i64.wrap (Int.tdiv x38 8)).toNat)) = some (.int .u8 x44)) rfl gd0 (fun w hc => (o_load Try.isAgg5 rfl hc)) hc45 rfl ?_
            refine WQ_val rfl gd0 (o_move (v := .int .u8 (IntKind.u8.wrap (band .u64 (shr .u64 n2 (IntKind.i64.wrap ((IntKind.i64.wrap (width3 - 1)) - t20))) 1))) rfl) rfl ?_
            refine WQ_val rfl gd0 (o_move (v := .pointer w1) (by exact e0_24)) rfl ?_
            refine WQ_val rfl gd0 (o_nilCheck (by exact (congrArg Value.pointer q33))) rfl ?_
            refine WQ_val rfl gd0 (o_fieldAddr 2 Try.underlying103 rfl Try.sizeOf3 rfl rfl rfl) rfl ?_
            obtain ⟨x46, hc47, h⟩ := h
            refine WQ_look (fun w => w.cell? (p32.add 2) = some (.int .i64 x46)) rfl gd0 (fun w hc => (o_load Try.isAgg3 rfl hc)) hc47 rfl ?_
            refine WQ_val rfl gd0 (fun w => o_rem rfl rfl w (by decide)) rfl ?_
            refine WQ_val rfl gd0 (o_sub rfl rfl) rfl ?_
            obtain ⟨c48, h⟩ := h
            refine WQ_val rfl gd0 (o_shl rfl rfl c48) rfl ?_
            refine WQ_val rfl gd0 (o_or rfl rfl) rfl ?_
            obtain ⟨l49, u50, h⟩ := h
            refine WQ_val rfl gd0 (o_indexAddr1 Try.underlying38 Try.sizeOf5 (by exact (congrArg (fun z => Value.slice z x_n35 x_c36) q43)) rfl l49 u50) rfl ?_
            obtain ⟨c52, h⟩ := h
            refine WQ_do rfl gd0 (o_store (v := .int .u8 (bor .u8 x44 (shl .u8 (IntKind.u8.wrap (band .u64 (shr .u64 n2 (IntKind.i64.wrap ((IntKind.i64.wrap (width3 - 1)) - t20))) 1)) (IntKind.i64.wrap (7 - (Int.tmod x46 8)))))) Try.sizeOf5 rfl rfl rfl c52) (by exact ⟨⟨⟨⟨trivial, depT (by kernel_rfl)⟩, depT (by kernel_rfl)⟩, depT (by kernel_rfl)⟩, depT (by kernel_rfl)⟩) ?_
            generalize hw51 : World.setCell w30.drew (p42.add ((IntKind.i64.wrap (Int.tdiv x38 8)).toNat)) (.int .u8 (bor .u8 x44 (shl .u8 (IntKind.u8.wrap (band .u64 (shr .u64 n2 (IntKind.i64.wrap ((IntKind.i64.wrap (width3 - 1)) - t20))) 1)) (IntKind.i64.wrap (7 - (Int.tmod x46 8)))))) = w51 at h ⊢
            try dsimp only at h
            refine WQ_nil ?_
            refine nrm ?_
            refine WC_region ?_
            refine WL_val gd0 ((o_move (v := .pointer w1) (by exact e0_24)) _) rfl ?_
            refine WL_val gd0 ((o_nilCheck (by exact (congrArg Value.pointer q33))) _) rfl ?_
            refine WL_val gd0 ((o_fieldAddr 2 Try.underlying103 rfl Try.sizeOf3 rfl rfl rfl) _) rfl ?_
            obtain ⟨x53, hc54, h⟩ := h
            refine WL_val gd0 (o_load Try.isAgg3 rfl hc54) rfl ?_
            refine WL_val gd0 ((o_add rfl rfl) _) rfl ?_
            refine WL_val gd0 ((o_nilCheck (by exact (congrArg Value.pointer q33))) _) rfl ?_
            refine WL_val gd0 ((o_fieldAddr 2 Try.underlying103 rfl Try.sizeOf3 rfl rfl rfl) _) rfl ?_
            obtain ⟨c56, h⟩ := h
            refine WL_act gd0 (o_store (v := .int .i64 (IntKind.i64.wrap (x53 + 1))) Try.sizeOf3 rfl rfl rfl c56) ?_
            generalize hw55 : World.setCell w51 (p32.add 2) (.int .i64 (IntKind.i64.wrap (x53 + 1))) = w55 at h ⊢
            try dsimp only at h
            refine WL_nil ?_
            refine nrmB ?_
            refine nrm ?_
            refine WC_region ?_
            refine WL_val gd0 ((o_add (by exact e20_29) rfl) _) rfl ?_
            refine WL_val gd0 ((o_move (v := .int .i64 (IntKind.i64.wrap (t20 + 1))) rfl) _) rfl ?_
            refine WL_nil ?_
            refine nrm ?_
            obtain ⟨m22, hm22, h⟩ := h
            exact ⟨m22, hm22, _, rfl, e0_24, e1_25, e2_26, e19_28, h⟩
        · rw [if_neg (of_decide_eq_false hb23)] at h
          refine WC_exit ?_
          refine exT ?_
          refine exT ?_
          refine exB ?_
          refine nrm ?_
          refine WC_seq ?_
          refine WC_region ?_
          refine WL_val gd0 ((o_move (v := .pointer w1) (by exact e0_15)) _) rfl ?_
          refine WL_val gd0 ((o_assign (v := .pointer w1) rfl) _) rfl ?_
          refine WL_nil ?_
          refine nrm ?_
          refine WC_ret ?_
          refine rtE ?_
          exact gv1 rfl rfl h

/-- (*spacecraft bits.Writer).Bytes -/
def F44 (w1 : Option Addr) (w2 : World) (k : Value → World → Prop) : Prop :=
  Does Try.prog 51 #[.pointer w1] w2 (fun v w3 => ∃ (x4 : Bool), v = .bool x4 ∧ if (!x4) = true then
  k (.slice none 0 0) w3
else
  New w3 5 [] (fun p6 w7 => ∃ (p8 : Addr), w1 = some p8 ∧ ∃ (x_a10 : Option Addr) (x_n11 x_c12 : Nat), w7.cell? (p8.add 1) = some (.slice x_a10 x_n11 x_c12) ∧ ∃ (b_a14 : Option Addr) (b_n15 b_c16 : Nat) (w17 : World), (Builtin.append_ #[38, 38] 38 #[.slice (some p6) 0 0, .slice x_a10 x_n11 x_c12]).run Try.prog w7 = .ok (.slice b_a14 b_n15 b_c16) w17 ∧ k (.slice b_a14 b_n15 b_c16) w17))
set_option maxRecDepth 100000 in
set_option maxHeartbeats 2000000 in
theorem w44 (w1 : Option Addr) (w2 : World) (k : Value → World → Prop) (h : F44 w1 w2 k) : Does Try.prog 44 #[.pointer w1] w2 k := by
  refine enter 12 Try.func44 rfl rfl rfl ?_
  intro ρ hρ
  have e0 := hρ 0 _ rfl
  unfold F44 at h
  refine WC_seq ?_
  refine WC_region ?_
  refine WL_val gd0 ((o_assign (v := .slice none 0 0) rfl) _) rfl ?_
  refine WL_nil ?_
  refine nrm ?_
  refine WC_seq ?_
  refine WC_seq ?_
  refine WC_region ?_
  refine WL_val gd0 ((o_move (v := .pointer w1) (by exact e0)) _) rfl ?_
  refine WL_call gd0 (o_call Try.call51 (argCons rfl argNil) _) rfl (h.mono ?_)
  rintro _ w3 ⟨x4, rfl, h⟩
  refine WL_val gd0 ((o_not rfl) _) rfl ?_
  refine WL_nil ?_
  refine nrm ?_
  refine WC_cond (t := (!x4)) rfl (fun hb5 => ?_) (fun hb5 => ?_)
  · rw [if_pos hb5] at h
    refine WC_seq ?_
    refine WC_region ?_
    refine WL_val gd0 ((o_assign (v := .slice none 0 0) rfl) _) rfl ?_
    refine WL_nil ?_
    refine nrm ?_
    refine WC_ret ?_
    refine rtT ?_
    refine rtE ?_
    exact gv1 rfl rfl h
  · rw [if_neg (neT hb5)] at h
    refine WC_skip ?_
    refine nrm ?_
    refine WC_seq ?_
    refine WC_region ?_
    have h := New.out h
    refine WL_val gd0 (o_buildSlice (e := 5) (ps := []) (cs := []) partNil (fun w => by kernel_rfl)) rfl ?_
    generalize hp6 : fresh w3 = p6 at h ⊢
    generalize hw7 : push w3 5 [] = w7 at h ⊢
    try dsimp only at h
    refine WL_val gd0 ((o_move (v := .pointer w1) (by exact e0)) _) rfl ?_
    obtain ⟨p8, q9, h⟩ := h
    refine WL_val gd0 ((o_nilCheck (by exact (congrArg Value.pointer q9))) _) rfl ?_
    refine WL_val gd0 ((o_fieldAddr 1 Try.underlying103 rfl Try.sizeOf38 rfl rfl rfl) _) rfl ?_
    obtain ⟨x_a10, x_n11, x_c12, hc13, h⟩ := h
    refine WL_val gd0 (o_load Try.isAgg38 rfl hc13) rfl ?_
    obtain ⟨b_a14, b_n15, b_c16, w17, r18, h⟩ := h
    refine WL_val gd0 (o_append rfl rfl r18) rfl ?_
    refine WL_val gd0 ((o_assign (v := .slice b_a14 b_n15 b_c16) rfl) _) rfl ?_
    refine WL_nil ?_
    refine nrm ?_
    refine WC_ret ?_
    refine rtE ?_
    exact gv1 rfl rfl h

def F45_b1 (l_n2 : Nat) (l_a1 : Option Addr) (i7 : Int) (w8 : World) (k : Value → World → Prop) (nx8 : Int → World → Prop) : Prop :=
  if i7 < (l_n2 : Int) then
  ∃ (p13 : Addr), l_a1 = some p13 ∧ (0 : Int) ≤ i7 ∧ i7 < (l_n2 : Int) ∧ ∃ (x15 : Int), w8.cell? (p13.add i7.toNat) = some (.int .i64 x15) ∧ if x15 < 0 then
    k (.bool false) w8
  else
    (0 : Int) ≤ i7 ∧ i7 < (l_n2 : Int) ∧ ∃ (x20 : Int), w8.cell? (p13.add i7.toNat) = some (.int .i64 x20) ∧ if 65535 < x20 then
      k (.bool false) w8
    else
      nx8 (IntKind.i64.wrap (i7 + 1)) w8
else
  k (.bool true) w8
/-- spacecraft spacecraftref34.inside -/
def F45 (l_a1 : Option Addr) (l_n2 : Nat) (l_c3 : Nat) (w4 : World) (k : Value → World → Prop) : Prop :=
  LoopP (fun (s : Int) w' nx' => F45_b1 l_n2 l_a1 s w' k (fun x0 w => nx' x0 w)) 0 w4
set_option maxRecDepth 100000 in
set_option maxHeartbeats 2000000 in
theorem w45 (l_a1 : Option Addr) (l_n2 : Nat) (l_c3 : Nat) (w4 : World) (k : Value → World → Prop) (h : F45 l_a1 l_n2 l_c3 w4 k) : Does Try.prog 45 #[.slice l_a1 l_n2 l_c3] w4 k := by
  refine enter 22 Try.func45 rfl rfl rfl ?_
  intro ρ hρ
  have e0 := hρ 0 _ rfl
  unfold F45 at h
  refine WC_seq ?_
  refine WC_region ?_
  refine WL_val gd0 ((o_assign (v := .bool false) rfl) _) rfl ?_
  refine WL_nil ?_
  refine nrm ?_
  refine WC_seq ?_
  refine WC_seq ?_
  refine WC_region ?_
  refine WL_val gd0 ((o_assign (v := .int .i64 0) rfl) _) rfl ?_
  refine WL_nil ?_
  refine nrm ?_
  refine WC_block ?_
  obtain ⟨J8, ⟨n8, h0⟩, hr8⟩ := h
  refine WC_loop (fun n ρ w' => ∃ (i7 : Int), ρ 3 = .int .i64 i7 ∧ ρ 0 = .slice l_a1 l_n2 l_c3 ∧ J8 n i7 w') ⟨n8, _, rfl, e0, h0⟩ ?_
  rintro n8 ρ w8 ⟨i7, e3_6, e0_5, h⟩
  have h : F45_b1 l_n2 l_a1 i7 w8 k (fun x0 w => ∃ m, m < n8 ∧ J8 m x0 w) := hr8 n8 i7 w8 h
  unfold F45_b1 at h
  refine WC_seq ?_
  refine WC_seq ?_
  refine WC_region ?_
  refine WL_val gd0 ((o_move (v := .int .i64 i7) (by exact e3_6)) _) rfl ?_
  refine WL_val gd0 ((o_move (v := .slice l_a1 l_n2 l_c3) (by exact e0_5)) _) rfl ?_
  refine WL_val gd0 ((o_len Try.underlying26 rfl) _) rfl ?_
  refine WL_val gd0 ((o_lss rfl rfl) _) rfl ?_
  refine WL_nil ?_
  refine nrm ?_
  refine WC_cond (t := (decide (i7 < (l_n2 : Int)))) rfl (fun hb10 => ?_) (fun hb10 => ?_)
  · rw [if_pos (of_decide_eq_true hb10)] at h
    refine WC_skip ?_
    refine nrm ?_
    refine WC_seq ?_
    refine WC_block ?_
    refine WC_seq ?_
    refine WC_region ?_
    refine WL_val gd0 ((o_move (v := .slice l_a1 l_n2 l_c3) (by exact e0_5)) _) rfl ?_
    refine WL_val gd0 ((o_move (v := .int .i64 i7) (by exact e3_6)) _) rfl ?_
    obtain ⟨p13, q14, h⟩ := h
    obtain ⟨l11, u12, h⟩ := h
    refine WL_val gd0 ((o_indexAddr1 Try.underlying26 Try.sizeOf3 (by exact (congrArg (fun z => Value.slice z l_n2 l_c3) q14)) rfl l11 u12) _) rfl ?_
    obtain ⟨x15, hc16, h⟩ := h
    refine WL_val gd0 (o_load Try.isAgg3 rfl hc16) rfl ?_
    refine WL_val gd0 ((o_lss rfl rfl) _) rfl ?_
    refine WL_val gd0 ((o_move (v := .bool (decide (x15 < 0))) rfl) _) rfl ?_
    refine bsplit (decide (x15 < 0)) (fun hb17 => ?_) (fun hb17 => ?_)
    · rw [if_pos (of_decide_eq_true hb17)] at h
      refine WL_skip (gdN (b := (decide (x15 < 0))) 15 rfl rfl hb17) rfl ?_
      refine WL_skip (gdN (b := (decide (x15 < 0))) 15 rfl rfl hb17) rfl ?_
      refine WL_skip (gdN (b := (decide (x15 < 0))) 15 rfl rfl hb17) rfl ?_
      refine WL_skip (gdN (b := (decide (x15 < 0))) 15 rfl rfl hb17) rfl ?_
      refine WL_skip (gdN (b := (decide (x15 < 0))) 15 rfl rfl hb17) rfl ?_
      refine WL_val gd0 ((o_pickT (v := .bool true) rfl hb17 rfl) _) rfl ?_
      refine WL_nil ?_
      refine nrm ?_
      refine WC_cond (t := true) rfl (fun _ => ?_) (fun hx => by rw [(rfl : true = true)] at hx; cases hx)
      refine WC_seq ?_
      refine WC_region ?_
      refine WL_val gd0 ((o_assign (v := .bool false) rfl) _) rfl ?_
      refine WL_nil ?_
      refine nrm ?_
      refine WC_ret ?_
      refine rtB ?_
      refine rtT ?_
      refine rtT ?_
      refine rtB ?_
      refine rtT ?_
      refine rtE ?_
      exact gv1 rfl rfl h
    · rw [if_neg (of_decide_eq_false hb17)] at h
      refine WL_val (gdY (b := (decide (x15 < 0))) 15 rfl rfl hb17) ((o_move (v := .slice l_a1 l_n2 l_c3) (by exact e0_5)) _) rfl ?_
      refine WL_val (gdY (b := (decide (x15 < 0))) 15 rfl rfl hb17) ((o_move (v := .int .i64 i7) (by exact e3_6)) _) rfl ?_
      obtain ⟨l18, u19, h⟩ := h
      refine WL_val (gdY (b := (decide (x15 < 0))) 15 rfl rfl hb17) ((o_indexAddr1 Try.underlying26 Try.sizeOf3 (by exact (congrArg (fun z => Value.slice z l_n2 l_c3) q14)) rfl l18 u19) _) rfl ?_
      obtain ⟨x20, hc21, h⟩ := h
      refine WL_val (gdY (b := (decide (x15 < 0))) 15 rfl rfl hb17) (o_load Try.isAgg3 rfl hc21) rfl ?_
      refine WL_val (gdY (b := (decide (x15 < 0))) 15 rfl rfl hb17) ((o_gtr rfl rfl) _) rfl ?_
      refine WL_val gd0 ((o_pickF (v := .bool (decide (65535 < x20))) rfl hb17 rfl) _) rfl ?_
      refine WL_nil ?_
      refine nrm ?_
      refine WC_cond (t := (decide (65535 < x20))) rfl (fun hb22 => ?_) (fun hb22 => ?_)
      · rw [if_pos (of_decide_eq_true hb22)] at h
        refine WC_seq ?_
        refine WC_region ?_
        refine WL_val gd0 ((o_assign (v := .bool false) rfl) _) rfl ?_
        refine WL_nil ?_
        refine nrm ?_
        refine WC_ret ?_
        refine rtB ?_
        refine rtT ?_
        refine rtT ?_
        refine rtB ?_
        refine rtT ?_
        refine rtE ?_
        exact gv1 rfl rfl h
      · rw [if_neg (of_decide_eq_false hb22)] at h
        refine WC_skip ?_
        refine nrmB ?_
        refine nrm ?_
        refine WC_region ?_
        refine WL_val gd0 ((o_move (v := .int .i64 i7) (by exact e3_6)) _) rfl ?_
        refine WL_val gd0 ((o_add rfl rfl) _) rfl ?_
        refine WL_val gd0 ((o_assign (v := .int .i64 (IntKind.i64.wrap (i7 + 1))) rfl) _) rfl ?_
        refine WL_nil ?_
        refine nrm ?_
        obtain ⟨m9, hm9, h⟩ := h
        exact ⟨m9, hm9, _, rfl, e0_5, h⟩
  · rw [if_neg (of_decide_eq_false hb10)] at h
    refine WC_exit ?_
    refine exT ?_
    refine exT ?_
    refine exB ?_
    refine nrm ?_
    refine WC_seq ?_
    refine WC_region ?_
    refine WL_val gd0 ((o_assign (v := .bool true) rfl) _) rfl ?_
    refine WL_nil ?_
    refine nrm ?_
    refine WC_ret ?_
    refine rtE ?_
    exact gv1 rfl rfl h

def F46_b1 (s1 : Option Addr) (id2 : Int) (i7 : Int) (w8 : World) (nx8 : Int → World → Prop) (k : Value → World → Prop) : Prop :=
  ∃ (p10 : Addr), s1 = some p10 ∧ ∃ (x_a12 : Option Addr) (x_n13 x_c14 : Nat), w8.cell? p10 = some (.slice x_a12 x_n13 x_c14) ∧ if i7 < (x_n13 : Int) then
  ∃ (x_a17 : Option Addr) (x_n18 x_c19 : Nat), w8.cell? p10 = some (.slice x_a17 x_n18 x_c19) ∧ ∃ (p23 : Addr), x_a17 = some p23 ∧ (0 : Int) ≤ i7 ∧ i7 < (x_n18 : Int) ∧ ∃ (x25 : Int), w8.cell? (p23.add (i7.toNat * 4)) = some (.int .i64 x25) ∧ if x25 < id2 then
    nx8 (IntKind.i64.wrap (i7 + 1)) w8
  else
    ∃ (x_a28 : Option Addr) (x_n29 x_c30 : Nat), w8.drew.cell? p10 = some (.slice x_a28 x_n29 x_c30) ∧ if i7 < (x_n29 : Int) then
      ∃ (x_a33 : Option Addr) (x_n34 x_c35 : Nat), w8.drew.cell? p10 = some (.slice x_a33 x_n34 x_c35) ∧ ∃ (p39 : Addr), x_a33 = some p39 ∧ (0 : Int) ≤ i7 ∧ i7 < (x_n34 : Int) ∧ ∃ (x41 : Int), w8.drew.cell? (p39.add (i7.toNat * 4)) = some (.int .i64 x41) ∧ k (.tuple #[.int .i64 i7, .bool (decide (x41 = id2))]) w8.drew
    else
      k (.tuple #[.int .i64 i7, .bool false]) w8.drew
else
  ∃ (x_a43 : Option Addr) (x_n44 x_c45 : Nat), w8.drew.cell? p10 = some (.slice x_a43 x_n44 x_c45) ∧ if i7 < (x_n44 : Int) then
    ∃ (x_a48 : Option Addr) (x_n49 x_c50 : Nat), w8.drew.cell? p10 = some (.slice x_a48 x_n49 x_c50) ∧ ∃ (p54 : Addr), x_a48 = some p54 ∧ (0 : Int) ≤ i7 ∧ i7 < (x_n49 : Int) ∧ ∃ (x56 : Int), w8.drew.cell? (p54.add (i7.toNat * 4)) = some (.int .i64 x56) ∧ k (.tuple #[.int .i64 i7, .bool (decide (x56 = id2))]) w8.drew
  else
    k (.tuple #[.int .i64 i7, .bool false]) w8.drew
/-- (*spacecraft spacecraftref34.Service).at -/
def F46 (s1 : Option Addr) (id2 : Int) (w3 : World) (k : Value → World → Prop) : Prop :=
  LoopP (fun (s : Int) w' nx' => F46_b1 s1 id2 s w' (fun x0 w => nx' x0 w) k) 0 w3
set_option maxRecDepth 100000 in
set_option maxHeartbeats 2000000 in
theorem w46 (s1 : Option Addr) (id2 : Int) (w3 : World) (k : Value → World → Prop) (h : F46 s1 id2 w3 k) : Does Try.prog 46 #[.pointer s1, .int .i64 id2] w3 k := by
  refine enter 48 Try.func46 rfl rfl rfl ?_
  intro ρ hρ
  have e0 := hρ 0 _ rfl
  have e1 := hρ 1 _ rfl
  unfold F46 at h
  refine WC_seq ?_
  refine WC_region ?_
  refine WL_val gd0 ((o_assign (v := .int .i64 0) rfl) _) rfl ?_
  refine WL_val gd0 ((o_assign (v := .bool false) rfl) _) rfl ?_
  refine WL_nil ?_
  refine nrm ?_
  refine WC_seq ?_
  refine WC_region ?_
  refine WL_val gd0 ((o_assign (v := .int .i64 0) rfl) _) rfl ?_
  refine WL_nil ?_
  refine nrm ?_
  refine WC_seq ?_
  refine WC_block ?_
  obtain ⟨J8, ⟨n8, h0⟩, hr8⟩ := h
  refine WC_loop (fun n ρ w' => ∃ (i7 : Int), ρ 6 = .int .i64 i7 ∧ ρ 0 = .pointer s1 ∧ ρ 1 = .int .i64 id2 ∧ J8 n i7 w') ⟨n8, _, rfl, e0, e1, h0⟩ ?_
  rintro n8 ρ w8 ⟨i7, e6_6, e0_4, e1_5, h⟩
  have h : F46_b1 s1 id2 i7 w8 (fun x0 w => ∃ m, m < n8 ∧ J8 m x0 w) k := hr8 n8 i7 w8 h
  unfold F46_b1 at h
  refine WC_seq ?_
  refine WC_seq ?_
  refine WC_region ?_
  refine WL_val gd0 ((o_move (v := .int .i64 i7) (by exact e6_6)) _) rfl ?_
  refine WL_val gd0 ((o_move (v := .pointer s1) (by exact e0_4)) _) rfl ?_
  obtain ⟨p10, q11, h⟩ := h
  refine WL_val gd0 ((o_nilCheck (by exact (congrArg Value.pointer q11))) _) rfl ?_
  refine WL_val gd0 ((o_fieldAddr0 Try.underlying50 rfl Try.sizeOf28 rfl rfl rfl) _) rfl ?_
  obtain ⟨x_a12, x_n13, x_c14, hc15, h⟩ := h
  refine WL_val gd0 (o_load Try.isAgg28 rfl hc15) rfl ?_
  refine WL_val gd0 ((o_len Try.underlying28 rfl) _) rfl ?_
  refine WL_val gd0 ((o_lss rfl rfl) _) rfl ?_
  refine WL_val gd0 ((o_move (v := .bool (decide (i7 < (x_n13 : Int)))) rfl) _) rfl ?_
  refine bsplit (decide (i7 < (x_n13 : Int))) (fun hb16 => ?_) (fun hb16 => ?_)
  · rw [if_pos (of_decide_eq_true hb16)] at h
    refine WL_val (gdY (b := (decide (i7 < (x_n13 : Int)))) 14 rfl rfl hb16) ((o_move (v := .pointer s1) (by exact e0_4)) _) rfl ?_
    refine WL_val (gdY (b := (decide (i7 < (x_n13 : Int)))) 14 rfl rfl hb16) ((o_nilCheck (by exact (congrArg Value.pointer q11))) _) rfl ?_
    refine WL_val (gdY (b := (decide (i7 < (x_n13 : Int)))) 14 rfl rfl hb16) ((o_fieldAddr0 Try.underlying50 rfl Try.sizeOf28 rfl rfl rfl) _) rfl ?_
    obtain ⟨x_a17, x_n18, x_c19, hc20, h⟩ := h
    refine WL_val (gdY (b := (decide (i7 < (x_n13 : Int)))) 14 rfl rfl hb16) (o_load Try.isAgg28 rfl hc20) rfl ?_
    refine WL_val (gdY (b := (decide (i7 < (x_n13 : Int)))) 14 rfl rfl hb16) ((o_move (v := .int .i64 i7) (by exact e6_6)) _) rfl ?_
    obtain ⟨p23, q24, h⟩ := h
    obtain ⟨l21, u22, h⟩ := h
    refine WL_val (gdY (b := (decide (i7 < (x_n13 : Int)))) 14 rfl rfl hb16) ((o_indexAddr Try.underlying28 Try.sizeOf31 (by exact (congrArg (fun z => Value.slice z x_n18 x_c19) q24)) rfl l21 u22) _) rfl ?_
    refine WL_val (gdY (b := (decide (i7 < (x_n13 : Int)))) 14 rfl rfl hb16) ((o_fieldAddr0 Try.underlying31 rfl Try.sizeOf3 rfl rfl rfl) _) rfl ?_
    obtain ⟨x25, hc26, h⟩ := h
    refine WL_val (gdY (b := (decide (i7 < (x_n13 : Int)))) 14 rfl rfl hb16) (o_load Try.isAgg3 rfl hc26) rfl ?_
    refine WL_val (gdY (b := (decide (i7 < (x_n13 : Int)))) 14 rfl rfl hb16) ((o_move (v := .int .i64 id2) (by exact e1_5)) _) rfl ?_
    refine WL_val (gdY (b := (decide (i7 < (x_n13 : Int)))) 14 rfl rfl hb16) ((o_lss rfl rfl) _) rfl ?_
    refine WL_val gd0 ((o_pickT (v := .bool (decide (x25 < id2))) rfl hb16 rfl) _) rfl ?_
    refine WL_nil ?_
    refine nrm ?_
    refine WC_cond (t := (decide (x25 < id2))) rfl (fun hb27 => ?_) (fun hb27 => ?_)
    · rw [if_pos (of_decide_eq_true hb27)] at h
      refine WC_skip ?_
      refine nrm ?_
      refine WC_block ?_
      refine WC_region ?_
      refine WL_val gd0 ((o_move (v := .int .i64 i7) (by exact e6_6)) _) rfl ?_
      refine WL_val gd0 ((o_add rfl rfl) _) rfl ?_
      refine WL_val gd0 ((o_assign (v := .int .i64 (IntKind.i64.wrap (i7 + 1))) rfl) _) rfl ?_
      refine WL_nil ?_
      refine nrmB ?_
      refine nrm ?_
      obtain ⟨m9, hm9, h⟩ := h
      exact ⟨m9, hm9, _, rfl, e0_4, e1_5, h⟩
    · rw [if_neg (of_decide_eq_false hb27)] at h
      refine WC_exit ?_
      refine exT ?_
      refine exT ?_
      refine exB ?_
      refine nrm ?_
      refine WC_seq ?_
      refine WC_draws [] (.look 0 (.look 1 (.look 2 (.look 3 (.look 4 (.look 5 (.look 6 (.look 7 (.look 8 (.look 9 (.look 10 (.look 11 (.look 12 (.look 13 (.look 14 (.look 15 (.look 16 (.look 17 (.look 18 (.look 19 (.look 20 (.look 21 .nil)))))))))))))))))))))) Try.mixed (by kernel_rfl) ?_
      refine WQ_val rfl gd0 (o_move (v := .int .i64 i7) (by exact e6_6)) rfl ?_
      refine WQ_val rfl gd0 (o_move (v := .int .i64 i7) (by exact e6_6)) rfl ?_
      refine WQ_val rfl gd0 (o_move (v := .pointer s1) (by exact e0_4)) rfl ?_
      refine WQ_val rfl gd0 (o_nilCheck (by exact (congrArg Value.pointer q11))) rfl ?_
      refine WQ_val rfl gd0 (o_fieldAddr0 Try.underlying50 rfl Try.sizeOf28 rfl rfl rfl) rfl ?_
      obtain ⟨x_a28, x_n29, x_c30, hc31, h⟩ := h
      refine WQ_look (fun w => w.cell? p10 = some (.slice x_a28 x_n29 x_c30)) rfl gd0 (fun w hc => (o_load Try.isAgg28 rfl hc)) hc31 rfl ?_
      refine WQ_val rfl gd0 (o_len Try.underlying28 rfl) rfl ?_
      refine WQ_val rfl gd0 (o_lss rfl rfl) rfl ?_
      refine WQ_val rfl gd0 (o_move (v := .bool (decide (i7 < (x_n29 : Int)))) rfl) rfl ?_
      refine bsplit (decide (i7 < (x_n29 : Int))) (fun hb32 => ?_) (fun hb32 => ?_)
      · rw [if_pos (of_decide_eq_true hb32)] at h
        refine WQ_val rfl (gdY (b := (decide (i7 < (x_n29 : Int)))) 36 rfl rfl hb32) (o_move (v := .pointer s1) (by exact e0_4)) rfl ?_
        refine WQ_val rfl (gdY (b := (decide (i7 < (x_n29 : Int)))) 36 rfl rfl hb32) (o_nilCheck (by exact (congrArg Value.pointer q11))) rfl ?_
        refine WQ_val rfl (gdY (b := (decide (i7 < (x_n29 : Int)))) 36 rfl rfl hb32) (o_fieldAddr0 Try.underlying50 rfl Try.sizeOf28 rfl rfl rfl) rfl ?_
        obtain ⟨x_a33, x_n34, x_c35, hc36, h⟩ := h
        refine WQ_look (fun w => w.cell? p10 = some (.slice x_a33 x_n34 x_c35)) rfl (gdY (b := (decide (i7 < (x_n29 : Int)))) 36 rfl rfl hb32) (fun w hc => (o_load Try.isAgg28 rfl hc)) hc36 rfl ?_
        refine WQ_val rfl (gdY (b := (decide (i7 < (x_n29 : Int)))) 36 rfl rfl hb32) (o_move (v := .int .i64 i7) (by exact e6_6)) rfl ?_
        obtain ⟨p39, q40, h⟩ := h
        obtain ⟨l37, u38, h⟩ := h
        refine WQ_val rfl (gdY (b := (decide (i7 < (x_n29 : Int)))) 36 rfl rfl hb32) (o_indexAddr Try.underlying28 Try.sizeOf31 (by exact (congrArg (fun z => Value.slice z x_n34 x_c35) q40)) rfl l37 u38) rfl ?_
        refine WQ_val rfl (gdY (b := (decide (i7 < (x_n29 : Int)))) 36 rfl rfl hb32) (o_fieldAddr0 Try.underlying31 rfl Try.sizeOf3 rfl rfl rfl) rfl ?_
        obtain ⟨x41, hc42, h⟩ := h
        refine WQ_look (fun w => w.cell? (p39.add (i7.toNat * 4)) = some (.int .i64 x41)) rfl (gdY (b := (decide (i7 < (x_n29 : Int)))) 36 rfl rfl hb32) (fun w hc => (o_load Try.isAgg3 rfl hc)) hc42 rfl ?_
        refine WQ_val rfl (gdY (b := (decide (i7 < (x_n29 : Int)))) 36 rfl rfl hb32) (o_move (v := .int .i64 id2) (by exact e1_5)) rfl ?_
        refine WQ_val rfl (gdY (b := (decide (i7 < (x_n29 : Int)))) 36 rfl rfl hb32) (o_eql rfl rfl) rfl ?_
        refine WQ_val rfl gd0 (o_pickT (v := .bool (decide (x41 = id2))) rfl hb32 rfl) rfl ?_
        refine WQ_val rfl gd0 (o_assign (v := .int .i64 i7) rfl) rfl ?_
        refine WQ_val rfl gd0 (o_assign (v := .bool (decide (x41 = id2))) rfl) rfl ?_
        refine WQ_nil ?_
        refine nrm ?_
        refine WC_ret ?_
        refine rtE ?_
        exact gv2 rfl rfl rfl h
      · rw [if_neg (of_decide_eq_false hb32)] at h
        refine WQ_skip rfl (gdN (b := (decide (i7 < (x_n29 : Int)))) 36 rfl rfl hb32) rfl ?_
        refine WQ_skip rfl (gdN (b := (decide (i7 < (x_n29 : Int)))) 36 rfl rfl hb32) rfl ?_
        refine WQ_skip rfl (gdN (b := (decide (i7 < (x_n29 : Int)))) 36 rfl rfl hb32) rfl ?_
        refine WQ_skip rfl (gdN (b := (decide (i7 < (x_n29 : Int)))) 36 rfl rfl hb32) rfl ?_
        refine WQ_skip rfl (gdN (b := (decide (i7 < (x_n29 : Int)))) 36 rfl rfl hb32) rfl ?_
        refine WQ_skip rfl (gdN (b := (decide (i7 < (x_n29 : Int)))) 36 rfl rfl hb32) rfl ?_
        refine WQ_skip rfl (gdN (b := (decide (i7 < (x_n29 : Int)))) 36 rfl rfl hb32) rfl ?_
        refine WQ_skip rfl (gdN (b := (decide (i7 < (x_n29 : Int)))) 36 rfl rfl hb32) rfl ?_
        refine WQ_skip rfl (gdN (b := (decide (i7 < (x_n29 : Int)))) 36 rfl rfl hb32) rfl ?_
        refine WQ_skip rfl (gdN (b := (decide (i7 < (x_n29 : Int)))) 36 rfl rfl hb32) rfl ?_
        refine WQ_val rfl gd0 (o_pickF (v := .bool false) rfl hb32 rfl) rfl ?_
        refine WQ_val rfl gd0 (o_assign (v := .int .i64 i7) rfl) rfl ?_
        refine WQ_val rfl gd0 (o_assign (v := .bool false) rfl) rfl ?_
        refine WQ_nil ?_
        refine nrm ?_
        refine WC_ret ?_
        refine rtE ?_
        exact gv2 rfl rfl rfl h
  · rw [if_neg (of_decide_eq_false hb16)] at h
    refine WL_skip (gdN (b := (decide (i7 < (x_n13 : Int)))) 14 rfl rfl hb16) rfl ?_
    refine WL_skip (gdN (b := (decide (i7 < (x_n13 : Int)))) 14 rfl rfl hb16) rfl ?_
    refine WL_skip (gdN (b := (decide (i7 < (x_n13 : Int)))) 14 rfl rfl hb16) rfl ?_
    refine WL_skip (gdN (b := (decide (i7 < (x_n13 : Int)))) 14 rfl rfl hb16) rfl ?_
    refine WL_skip (gdN (b := (decide (i7 < (x_n13 : Int)))) 14 rfl rfl hb16) rfl ?_
    refine WL_skip (gdN (b := (decide (i7 < (x_n13 : Int)))) 14 rfl rfl hb16) rfl ?_
    refine WL_skip (gdN (b := (decide (i7 < (x_n13 : Int)))) 14 rfl rfl hb16) rfl ?_
    refine WL_skip (gdN (b := (decide (i7 < (x_n13 : Int)))) 14 rfl rfl hb16) rfl ?_
    refine WL_skip (gdN (b := (decide (i7 < (x_n13 : Int)))) 14 rfl rfl hb16) rfl ?_
    refine WL_skip (gdN (b := (decide (i7 < (x_n13 : Int)))) 14 rfl rfl hb16) rfl ?_
    refine WL_val gd0 ((o_pickF (v := .bool false) rfl hb16 rfl) _) rfl ?_
    refine WL_nil ?_
    refine nrm ?_
    refine WC_cond (t := false) rfl (fun hx => by rw [(rfl : false = false)] at hx; cases hx) (fun _ => ?_)
    refine WC_exit ?_
    refine exT ?_
    refine exT ?_
    refine exB ?_
    refine nrm ?_
    refine WC_seq ?_
    refine WC_draws [] (.look 0 (.look 1 (.look 2 (.look 3 (.look 4 (.look 5 (.look 6 (.look 7 (.look 8 (.look 9 (.look 10 (.look 11 (.look 12 (.look 13 (.look 14 (.look 15 (.look 16 (.look 17 (.look 18 (.look 19 (.look 20 (.look 21 .nil)))))))))))))))))))))) Try.mixed (by kernel_rfl) ?_
    refine WQ_val rfl gd0 (o_move (v := .int .i64 i7) (by exact e6_6)) rfl ?_
    refine WQ_val rfl gd0 (o_move (v := .int .i64 i7) (by exact e6_6)) rfl ?_
    refine WQ_val rfl gd0 (o_move (v := .pointer s1) (by exact e0_4)) rfl ?_
    refine WQ_val rfl gd0 (o_nilCheck (by exact (congrArg Value.pointer q11))) rfl ?_
    refine WQ_val rfl gd0 (o_fieldAddr0 Try.underlying50 rfl Try.sizeOf28 rfl rfl rfl) rfl ?_
    obtain ⟨x_a43, x_n44, x_c45, hc46, h⟩ := h
    refine WQ_look (fun w => w.cell? p10 = some (.slice x_a43 x_n44 x_c45)) rfl gd0 (fun w hc => (o_load Try.isAgg28 rfl hc)) hc46 rfl ?_
    refine WQ_val rfl gd0 (o_len Try.underlying28 rfl) rfl ?_
    refine WQ_val rfl gd0 (o_lss rfl rfl) rfl ?_
    refine WQ_val rfl gd0 (o_move (v := .bool (decide (i7 < (x_n44 : Int)))) rfl) rfl ?_
    refine bsplit (decide (i7 < (x_n44 : Int))) (fun hb47 => ?_) (fun hb47 => ?_)
    · rw [if_pos (of_decide_eq_true hb47)] at h
      refine WQ_val rfl (gdY (b := (decide (i7 < (x_n44 : Int)))) 36 rfl rfl hb47) (o_move (v := .pointer s1) (by exact e0_4)) rfl ?_
      refine WQ_val rfl (gdY (b := (decide (i7 < (x_n44 : Int)))) 36 rfl rfl hb47) (o_nilCheck (by exact (congrArg Value.pointer q11))) rfl ?_
      refine WQ_val rfl (gdY (b := (decide (i7 < (x_n44 : Int)))) 36 rfl rfl hb47) (o_fieldAddr0 Try.underlying50 rfl Try.sizeOf28 rfl rfl rfl) rfl ?_
      obtain ⟨x_a48, x_n49, x_c50, hc51, h⟩ := h
      refine WQ_look (fun w => w.cell? p10 = some (.slice x_a48 x_n49 x_c50)) rfl (gdY (b := (decide (i7 < (x_n44 : Int)))) 36 rfl rfl hb47) (fun w hc => (o_load Try.isAgg28 rfl hc)) hc51 rfl ?_
      refine WQ_val rfl (gdY (b := (decide (i7 < (x_n44 : Int)))) 36 rfl rfl hb47) (o_move (v := .int .i64 i7) (by exact e6_6)) rfl ?_
      obtain ⟨p54, q55, h⟩ := h
      obtain ⟨l52, u53, h⟩ := h
      refine WQ_val rfl (gdY (b := (decide (i7 < (x_n44 : Int)))) 36 rfl rfl hb47) (o_indexAddr Try.underlying28 Try.sizeOf31 (by exact (congrArg (fun z => Value.slice z x_n49 x_c50) q55)) rfl l52 u53) rfl ?_
      refine WQ_val rfl (gdY (b := (decide (i7 < (x_n44 : Int)))) 36 rfl rfl hb47) (o_fieldAddr0 Try.underlying31 rfl Try.sizeOf3 rfl rfl rfl) rfl ?_
      obtain ⟨x56, hc57, h⟩ := h
      refine WQ_look (fun w => w.cell? (p54.add (i7.toNat * 4)) = some (.int .i64 x56)) rfl (gdY (b := (decide (i7 < (x_n44 : Int)))) 36 rfl rfl hb47) (fun w hc => (o_load Try.isAgg3 rfl hc)) hc57 rfl ?_
      refine WQ_val rfl (gdY (b := (decide (i7 < (x_n44 : Int)))) 36 rfl rfl hb47) (o_move (v := .int .i64 id2) (by exact e1_5)) rfl ?_
      refine WQ_val rfl (gdY (b := (decide (i7 < (x_n44 : Int)))) 36 rfl rfl hb47) (o_eql rfl rfl) rfl ?_
      refine WQ_val rfl gd0 (o_pickT (v := .bool (decide (x56 = id2))) rfl hb47 rfl) rfl ?_
      refine WQ_val rfl gd0 (o_assign (v := .int .i64 i7) rfl) rfl ?_
      refine WQ_val rfl gd0 (o_assign (v := .bool (decide (x56 = id2))) rfl) rfl ?_
      refine WQ_nil ?_
      refine nrm ?_
      refine WC_ret ?_
      refine rtE ?_
      exact gv2 rfl rfl rfl h
    · rw [if_neg (of_decide_eq_false hb47)] at h
      refine WQ_skip rfl (gdN (b := (decide (i7 < (x_n44 : Int)))) 36 rfl rfl hb47) rfl ?_
      refine WQ_skip rfl (gdN (b := (decide (i7 < (x_n44 : Int)))) 36 rfl rfl hb47) rfl ?_
      refine WQ_skip rfl (gdN (b := (decide (i7 < (x_n44 : Int)))) 36 rfl rfl hb47) rfl ?_
      refine WQ_skip rfl (gdN (b := (decide (i7 < (x_n44 : Int)))) 36 rfl rfl hb47) rfl ?_
      refine WQ_skip rfl (gdN (b := (decide (i7 < (x_n44 : Int)))) 36 rfl rfl hb47) rfl ?_
      refine WQ_skip rfl (gdN (b := (decide (i7 < (x_n44 : Int)))) 36 rfl rfl hb47) rfl ?_
      refine WQ_skip rfl (gdN (b := (decide (i7 < (x_n44 : Int)))) 36 rfl rfl hb47) rfl ?_
      refine WQ_skip rfl (gdN (b := (decide (i7 < (x_n44 : Int)))) 36 rfl rfl hb47) rfl ?_
      refine WQ_skip rfl (gdN (b := (decide (i7 < (x_n44 : Int)))) 36 rfl rfl hb47) rfl ?_
      refine WQ_skip rfl (gdN (b := (decide (i7 < (x_n44 : Int)))) 36 rfl rfl hb47) rfl ?_
      refine WQ_val rfl gd0 (o_pickF (v := .bool false) rfl hb47 rfl) rfl ?_
      refine WQ_val rfl gd0 (o_assign (v := .int .i64 i7) rfl) rfl ?_
      refine WQ_val rfl gd0 (o_assign (v := .bool false) rfl) rfl ?_
      refine WQ_nil ?_
      refine nrm ?_
      refine WC_ret ?_
      refine rtE ?_
      exact gv2 rfl rfl rfl h

def F47_j1 (s1 : Option Addr) (now2 : Int) (t7 : Bool) (w8 : World) (k : Value → World → Prop) : Prop :=
  if t7 = true then
  ∃ (p10 : Addr), s1 = some p10 ∧ Put w8 (p10.add 2) (.int .i64 now2) (fun w12 => k (.tuple #[]) w12)
else
  k (.tuple #[]) w8
/-- (*spacecraft spacecraftref34.Service).clock -/
def F47 (s1 : Option Addr) (now2 : Int) (w3 : World) (k : Value → World → Prop) : Prop :=
  ∃ (p14 : Addr), s1 = some p14 ∧ ∃ (x16 : Int), w3.cell? (p14.add 2) = some (.int .i64 x16) ∧ if x16 < now2 then
  F47_j1 s1 now2 (decide (now2 ≤ 1099511627776)) w3 k
else
  F47_j1 s1 now2 false w3 k
set_option maxRecDepth 100000 in
set_option maxHeartbeats 2000000 in
theorem w47 (s1 : Option Addr) (now2 : Int) (w3 : World) (k : Value → World → Prop) (h : F47 s1 now2 w3 k) : Does Try.prog 47 #[.pointer s1, .int .i64 now2] w3 k := by
  refine enter 18 Try.func47 rfl rfl rfl ?_
  intro ρ hρ
  have e0 := hρ 0 _ rfl
  have e1 := hρ 1 _ rfl
  unfold F47 at h
  refine WC_cut (fun ρ w' => ∃ (t7 : Bool), ρ 13 = .bool t7 ∧ ρ 0 = .pointer s1 ∧ ρ 1 = .int .i64 now2 ∧ F47_j1 s1 now2 t7 w' k) ?_ ?_
  · refine WC_region ?_
    refine WL_val gd0 ((o_move (v := .int .i64 now2) (by exact e1)) _) rfl ?_
    refine WL_val gd0 ((o_move (v := .pointer s1) (by exact e0)) _) rfl ?_
    obtain ⟨p14, q15, h⟩ := h
    refine WL_val gd0 ((o_nilCheck (by exact (congrArg Value.pointer q15))) _) rfl ?_
    refine WL_val gd0 ((o_fieldAddr 2 Try.underlying50 rfl Try.sizeOf3 rfl rfl rfl) _) rfl ?_
    obtain ⟨x16, hc17, h⟩ := h
    refine WL_val gd0 (o_load Try.isAgg3 rfl hc17) rfl ?_
    refine WL_val gd0 ((o_gtr rfl rfl) _) rfl ?_
    refine WL_val gd0 ((o_move (v := .bool (decide (x16 < now2))) rfl) _) rfl ?_
    refine bsplit (decide (x16 < now2)) (fun hb18 => ?_) (fun hb18 => ?_)
    · rw [if_pos (of_decide_eq_true hb18)] at h
      refine WL_val (gdY (b := (decide (x16 < now2))) 10 rfl rfl hb18) ((o_move (v := .int .i64 now2) (by exact e1)) _) rfl ?_
      refine WL_val (gdY (b := (decide (x16 < now2))) 10 rfl rfl hb18) ((o_leq rfl rfl) _) rfl ?_
      refine WL_val gd0 ((o_pickT (v := .bool (decide (now2 ≤ 1099511627776))) rfl hb18 rfl) _) rfl ?_
      refine WL_nil ?_
      refine nrm ?_
      exact ⟨_, rfl, e0, e1, h⟩
    · rw [if_neg (of_decide_eq_false hb18)] at h
      refine WL_skip (gdN (b := (decide (x16 < now2))) 10 rfl rfl hb18) rfl ?_
      refine WL_skip (gdN (b := (decide (x16 < now2))) 10 rfl rfl hb18) rfl ?_
      refine WL_val gd0 ((o_pickF (v := .bool false) rfl hb18 rfl) _) rfl ?_
      refine WL_nil ?_
      refine nrm ?_
      exact ⟨_, rfl, e0, e1, h⟩
  · rintro ρ w8 ⟨t7, e13_6, e0_4, e1_5, h⟩
    unfold F47_j1 at h
    refine WC_cond (t := t7) (by exact e13_6) (fun hb9 => ?_) (fun hb9 => ?_)
    · rw [if_pos hb9] at h
      refine WC_region ?_
      refine WL_val gd0 ((o_move (v := .pointer s1) (by exact e0_4)) _) rfl ?_
      refine WL_val gd0 ((o_move (v := .int .i64 now2) (by exact e1_5)) _) rfl ?_
      obtain ⟨p10, q11, h⟩ := h
      refine WL_val gd0 ((o_nilCheck (by exact (congrArg Value.pointer q11))) _) rfl ?_
      refine WL_val gd0 ((o_fieldAddr 2 Try.underlying50 rfl Try.sizeOf3 rfl rfl rfl) _) rfl ?_
      obtain ⟨c13, h⟩ := h
      refine WL_act gd0 (o_store (v := .int .i64 now2) Try.sizeOf3 rfl rfl rfl c13) ?_
      generalize hw12 : World.setCell w8 (p10.add 2) (.int .i64 now2) = w12 at h ⊢
      try dsimp only at h
      refine WL_nil ?_
      refine ndE ?_
      exact gv0 rfl h
    · rw [if_neg (neT hb9)] at h
      refine WC_skip ?_
      refine ndE ?_
      exact gv0 rfl h

/-- slices.rotateLeft spacecraft hk.entry  -/
def F48 (s_a1 : Option Addr) (s_n2 : Nat) (s_c3 : Nat) (r4 : Int) (w5 : World) (k : Value → World → Prop) : Prop :=
  (0 : Int) ≤ r4 ∧ r4 ≤ (s_c3 : Int) ∧ Does Try.prog 52 #[.slice s_a1 r4.toNat s_c3] w5 (fun v w8 => v = .tuple #[] ∧ (0 : Int) ≤ r4 ∧ r4 ≤ (s_n2 : Int) ∧ Does Try.prog 52 #[.slice (cutA s_a1 s_c3 r4.toNat 5) (s_n2 - r4.toNat) (s_c3 - r4.toNat)] w8 (fun v w11 => v = .tuple #[] ∧ Does Try.prog 52 #[.slice s_a1 s_n2 s_c3] w11 (fun v w12 => v = .tuple #[] ∧ k (.tuple #[]) w12)))
set_option maxRecDepth 100000 in
set_option maxHeartbeats 2000000 in
theorem w48 (s_a1 : Option Addr) (s_n2 : Nat) (s_c3 : Nat) (r4 : Int) (w5 : World) (k : Value → World → Prop) (h : F48 s_a1 s_n2 s_c3 r4 w5 k) : Does Try.prog 48 #[.slice s_a1 s_n2 s_c3, .int .i64 r4] w5 k := by
  refine enter 14 Try.func48 rfl rfl rfl ?_
  intro ρ hρ
  have e0 := hρ 0 _ rfl
  have e1 := hρ 1 _ rfl
  unfold F48 at h
  refine WC_seq ?_
  refine WC_region ?_
  refine WL_val gd0 ((o_move (v := .slice s_a1 s_n2 s_c3) (by exact e0)) _) rfl ?_
  refine WL_val gd0 ((o_move (v := .int .i64 r4) (by exact e1)) _) rfl ?_
  obtain ⟨c6, c7, h⟩ := h
  refine WL_val gd0 ((o_sliceH Try.underlying45 Try.sizeOf66 rfl rfl c6 c7) _) rfl ?_
  refine WL_call gd0 (o_call Try.call52 (argCons rfl argNil) _) rfl (h.mono ?_)
  rintro _ w8 ⟨rfl, h⟩
  refine WL_nil ?_
  refine nrm ?_
  refine WC_seq ?_
  refine WC_region ?_
  refine WL_val gd0 ((o_move (v := .slice s_a1 s_n2 s_c3) (by exact e0)) _) rfl ?_
  refine WL_val gd0 ((o_move (v := .int .i64 r4) (by exact e1)) _) rfl ?_
  obtain ⟨c9, c10, h⟩ := h
  refine WL_val gd0 ((o_sliceL Try.underlying45 Try.sizeOf66 rfl rfl c9 c10) _) rfl ?_
  refine WL_call gd0 (o_call Try.call52 (argCons rfl argNil) _) rfl (h.mono ?_)
  rintro _ w11 ⟨rfl, h⟩
  refine WL_nil ?_
  refine nrm ?_
  refine WC_region ?_
  refine WL_val gd0 ((o_move (v := .slice s_a1 s_n2 s_c3) (by exact e0)) _) rfl ?_
  refine WL_call gd0 (o_call Try.call52 (argCons rfl argNil) _) rfl (h.mono ?_)
  rintro _ w12 ⟨rfl, h⟩
  refine WL_nil ?_
  refine ndE ?_
  exact gv0 rfl h

/-- (*spacecraft params.Pool).usable -/
def F49 (p1 : Option Addr) (w2 : World) (k : Value → World → Prop) : Prop :=
  if (!(p1).isNone) = true then
  ∃ (p4 : Addr), p1 = some p4 ∧ ∃ (x6 : Bool), w2.cell? p4 = some (.bool x6) ∧ k (.bool x6) w2
else
  k (.bool false) w2
set_option maxRecDepth 100000 in
set_option maxHeartbeats 2000000 in
theorem w49 (p1 : Option Addr) (w2 : World) (k : Value → World → Prop) (h : F49 p1 w2 k) : Does Try.prog 49 #[.pointer p1] w2 k := by
  refine enter 11 Try.func49 rfl rfl rfl ?_
  intro ρ hρ
  have e0 := hρ 0 _ rfl
  unfold F49 at h
  refine WC_seq ?_
  refine WC_region ?_
  refine WL_val gd0 ((o_assign (v := .bool false) rfl) _) rfl ?_
  refine WL_nil ?_
  refine nrm ?_
  refine WC_seq ?_
  refine WC_region ?_
  refine WL_val gd0 ((o_move (v := .pointer p1) (by exact e0)) _) rfl ?_
  refine WL_val gd0 ((o_neqPtrNil Try.underlying57 rfl rfl) _) rfl ?_
  refine WL_val gd0 ((o_move (v := .bool (!(p1).isNone)) rfl) _) rfl ?_
  refine bsplit (!(p1).isNone) (fun hb3 => ?_) (fun hb3 => ?_)
  · rw [if_pos hb3] at h
    refine WL_val (gdY (b := (!(p1).isNone)) 5 rfl rfl hb3) ((o_move (v := .pointer p1) (by exact e0)) _) rfl ?_
    obtain ⟨p4, q5, h⟩ := h
    refine WL_val (gdY (b := (!(p1).isNone)) 5 rfl rfl hb3) ((o_nilCheck (by exact (congrArg Value.pointer q5))) _) rfl ?_
    refine WL_val (gdY (b := (!(p1).isNone)) 5 rfl rfl hb3) ((o_fieldAddr0 Try.underlying80 rfl Try.sizeOf4 rfl rfl rfl) _) rfl ?_
    obtain ⟨x6, hc7, h⟩ := h
    refine WL_val (gdY (b := (!(p1).isNone)) 5 rfl rfl hb3) (o_load Try.isAgg4 rfl hc7) rfl ?_
    refine WL_val gd0 ((o_pickT (v := .bool x6) rfl hb3 rfl) _) rfl ?_
    refine WL_val gd0 ((o_assign (v := .bool x6) rfl) _) rfl ?_
    refine WL_nil ?_
    refine nrm ?_
    refine WC_ret ?_
    refine rtE ?_
    exact gv1 rfl rfl h
  · rw [if_neg (neT hb3)] at h
    refine WL_skip (gdN (b := (!(p1).isNone)) 5 rfl rfl hb3) rfl ?_
    refine WL_skip (gdN (b := (!(p1).isNone)) 5 rfl rfl hb3) rfl ?_
    refine WL_skip (gdN (b := (!(p1).isNone)) 5 rfl rfl hb3) rfl ?_
    refine WL_skip (gdN (b := (!(p1).isNone)) 5 rfl rfl hb3) rfl ?_
    refine WL_val gd0 ((o_pickF (v := .bool false) rfl hb3 rfl) _) rfl ?_
    refine WL_val gd0 ((o_assign (v := .bool false) rfl) _) rfl ?_
    refine WL_nil ?_
    refine nrm ?_
    refine WC_ret ?_
    refine rtE ?_
    exact gv1 rfl rfl h

/-- (*spacecraft params.Pool).def -/
def F50 (p1 : Option Addr) (id2 : Int) (w3 : World) (k : Value → World → Prop) : Prop :=
  Does Try.prog 49 #[.pointer p1] w3 (fun v w4 => ∃ (x5 : Bool), v = .bool x5 ∧ if (!x5) = true then
  k (.tuple #[.pointer none, .int .i64 2]) w4
else
  ∃ (p7 : Addr), p1 = some p7 ∧ Does Try.prog 53 #[.pointer (some (p7.add 1)), .int .i64 id2] w4 (fun v w9 => ∃ (r10 : Int) (r11 : Bool), v = .tuple #[.int .i64 r10, .bool r11] ∧ if (!r11) = true then
    k (.tuple #[.pointer none, .int .i64 8]) w9
  else
    ∃ (x_a13 : Option Addr) (x_n14 x_c15 : Nat), w9.cell? ((p7.add 1).add 1) = some (.slice x_a13 x_n14 x_c15) ∧ ∃ (p19 : Addr), x_a13 = some p19 ∧ (0 : Int) ≤ r10 ∧ r10 < (x_n14 : Int) ∧ k (.tuple #[.pointer (some (p19.add (r10.toNat * 4))), .int .i64 0]) w9))
set_option maxRecDepth 100000 in
set_option maxHeartbeats 2000000 in
theorem w50 (p1 : Option Addr) (id2 : Int) (w3 : World) (k : Value → World → Prop) (h : F50 p1 id2 w3 k) : Does Try.prog 50 #[.pointer p1, .int .i64 id2] w3 k := by
  refine enter 28 Try.func50 rfl rfl rfl ?_
  intro ρ hρ
  have e0 := hρ 0 _ rfl
  have e1 := hρ 1 _ rfl
  unfold F50 at h
  refine WC_seq ?_
  refine WC_region ?_
  refine WL_val gd0 ((o_assign (v := .pointer none) rfl) _) rfl ?_
  refine WL_val gd0 ((o_assign (v := .int .i64 0) rfl) _) rfl ?_
  refine WL_nil ?_
  refine nrm ?_
  refine WC_seq ?_
  refine WC_seq ?_
  refine WC_region ?_
  refine WL_val gd0 ((o_move (v := .pointer p1) (by exact e0)) _) rfl ?_
  refine WL_call gd0 (o_call Try.call49 (argCons rfl argNil) _) rfl (h.mono ?_)
  rintro _ w4 ⟨x5, rfl, h⟩
  refine WL_val gd0 ((o_not rfl) _) rfl ?_
  refine WL_nil ?_
  refine nrm ?_
  refine WC_cond (t := (!x5)) rfl (fun hb6 => ?_) (fun hb6 => ?_)
  · rw [if_pos hb6] at h
    refine WC_seq ?_
    refine WC_region ?_
    refine WL_val gd0 ((o_assign (v := .pointer none) rfl) _) rfl ?_
    refine WL_val gd0 ((o_assign (v := .int .i64 2) rfl) _) rfl ?_
    refine WL_nil ?_
    refine nrm ?_
    refine WC_ret ?_
    refine rtT ?_
    refine rtE ?_
    exact gv2 rfl rfl rfl h
  · rw [if_neg (neT hb6)] at h
    refine WC_skip ?_
    refine nrm ?_
    refine WC_seq ?_
    refine WC_region ?_
    refine WL_val gd0 ((o_move (v := .pointer p1) (by exact e0)) _) rfl ?_
    obtain ⟨p7, q8, h⟩ := h
    refine WL_val gd0 ((o_nilCheck (by exact (congrArg Value.pointer q8))) _) rfl ?_
    refine WL_val gd0 ((o_fieldAddr 1 Try.underlying80 rfl Try.sizeOf78 rfl rfl rfl) _) rfl ?_
    refine WL_val gd0 ((o_move (v := .int .i64 id2) (by exact e1)) _) rfl ?_
    refine WL_call gd0 (o_call Try.call53 (argCons rfl (argCons rfl argNil)) _) rfl (h.mono ?_)
    rintro _ w9 ⟨r10, r11, rfl, h⟩
    refine WL_val gd0 ((o_move (v := .tuple #[.int .i64 r10, .bool r11]) rfl) _) rfl ?_
    refine WL_val gd0 ((o_extract (vs := [.int .i64 r10, .bool r11]) (r := .int .i64 r10) rfl rfl) _) rfl ?_
    refine WL_val gd0 ((o_extract (vs := [.int .i64 r10, .bool r11]) (r := .bool r11) rfl rfl) _) rfl ?_
    refine WL_val gd0 ((o_assign (v := .int .i64 r10) rfl) _) rfl ?_
    refine WL_val gd0 ((o_assign (v := .bool r11) rfl) _) rfl ?_
    refine WL_nil ?_
    refine nrm ?_
    refine WC_seq ?_
    refine WC_seq ?_
    refine WC_region ?_
    refine WL_val gd0 ((o_move (v := .bool r11) rfl) _) rfl ?_
    refine WL_val gd0 ((o_not rfl) _) rfl ?_
    refine WL_nil ?_
    refine nrm ?_
    refine WC_cond (t := (!r11)) rfl (fun hb12 => ?_) (fun hb12 => ?_)
    · rw [if_pos hb12] at h
      refine WC_seq ?_
      refine WC_region ?_
      refine WL_val gd0 ((o_assign (v := .pointer none) rfl) _) rfl ?_
      refine WL_val gd0 ((o_assign (v := .int .i64 8) rfl) _) rfl ?_
      refine WL_nil ?_
      refine nrm ?_
      refine WC_ret ?_
      refine rtT ?_
      refine rtE ?_
      exact gv2 rfl rfl rfl h
    · rw [if_neg (neT hb12)] at h
      refine WC_skip ?_
      refine nrm ?_
      refine WC_seq ?_
      refine WC_region ?_
      refine WL_val gd0 ((o_move (v := .pointer p1) (by exact e0)) _) rfl ?_
      refine WL_val gd0 ((o_nilCheck (by exact (congrArg Value.pointer q8))) _) rfl ?_
      refine WL_val gd0 ((o_fieldAddr 1 Try.underlying80 rfl Try.sizeOf78 rfl rfl rfl) _) rfl ?_
      refine WL_val gd0 ((o_fieldAddr 1 Try.underlying78 rfl Try.sizeOf56 rfl rfl rfl) _) rfl ?_
      obtain ⟨x_a13, x_n14, x_c15, hc16, h⟩ := h
      refine WL_val gd0 (o_load Try.isAgg56 rfl hc16) rfl ?_
      refine WL_val gd0 ((o_move (v := .int .i64 r10) rfl) _) rfl ?_
      obtain ⟨p19, q20, h⟩ := h
      obtain ⟨l17, u18, h⟩ := h
      refine WL_val gd0 ((o_indexAddr Try.underlying56 Try.sizeOf82 (by exact (congrArg (fun z => Value.slice z x_n14 x_c15) q20)) rfl l17 u18) _) rfl ?_
      refine WL_val gd0 ((o_assign (v := .pointer (some (p19.add (r10.toNat * 4)))) rfl) _) rfl ?_
      refine WL_val gd0 ((o_assign (v := .int .i64 0) rfl) _) rfl ?_
      refine WL_nil ?_
      refine nrm ?_
      refine WC_ret ?_
      refine rtE ?_
      exact gv2 rfl rfl rfl h

/-- (*spacecraft bits.Writer).ok -/
def F51 (w1 : Option Addr) (w2 : World) (k : Value → World → Prop) : Prop :=
  if (!(w1).isNone) = true then
  ∃ (p4 : Addr), w1 = some p4 ∧ ∃ (x6 : Bool), w2.cell? p4 = some (.bool x6) ∧ k (.bool x6) w2
else
  k (.bool false) w2
set_option maxRecDepth 100000 in
set_option maxHeartbeats 2000000 in
theorem w51 (w1 : Option Addr) (w2 : World) (k : Value → World → Prop) (h : F51 w1 w2 k) : Does Try.prog 51 #[.pointer w1] w2 k := by
  refine enter 11 Try.func51 rfl rfl rfl ?_
  intro ρ hρ
  have e0 := hρ 0 _ rfl
  unfold F51 at h
  refine WC_seq ?_
  refine WC_region ?_
  refine WL_val gd0 ((o_assign (v := .bool false) rfl) _) rfl ?_
  refine WL_nil ?_
  refine nrm ?_
  refine WC_seq ?_
  refine WC_region ?_
  refine WL_val gd0 ((o_move (v := .pointer w1) (by exact e0)) _) rfl ?_
  refine WL_val gd0 ((o_neqPtrNil Try.underlying91 rfl rfl) _) rfl ?_
  refine WL_val gd0 ((o_move (v := .bool (!(w1).isNone)) rfl) _) rfl ?_
  refine bsplit (!(w1).isNone) (fun hb3 => ?_) (fun hb3 => ?_)
  · rw [if_pos hb3] at h
    refine WL_val (gdY (b := (!(w1).isNone)) 5 rfl rfl hb3) ((o_move (v := .pointer w1) (by exact e0)) _) rfl ?_
    obtain ⟨p4, q5, h⟩ := h
    refine WL_val (gdY (b := (!(w1).isNone)) 5 rfl rfl hb3) ((o_nilCheck (by exact (congrArg Value.pointer q5))) _) rfl ?_
    refine WL_val (gdY (b := (!(w1).isNone)) 5 rfl rfl hb3) ((o_fieldAddr0 Try.underlying103 rfl Try.sizeOf4 rfl rfl rfl) _) rfl ?_
    obtain ⟨x6, hc7, h⟩ := h
    refine WL_val (gdY (b := (!(w1).isNone)) 5 rfl rfl hb3) (o_load Try.isAgg4 rfl hc7) rfl ?_
    refine WL_val gd0 ((o_pickT (v := .bool x6) rfl hb3 rfl) _) rfl ?_
    refine WL_val gd0 ((o_assign (v := .bool x6) rfl) _) rfl ?_
    refine WL_nil ?_
    refine nrm ?_
    refine WC_ret ?_
    refine rtE ?_
    exact gv1 rfl rfl h
  · rw [if_neg (neT hb3)] at h
    refine WL_skip (gdN (b := (!(w1).isNone)) 5 rfl rfl hb3) rfl ?_
    refine WL_skip (gdN (b := (!(w1).isNone)) 5 rfl rfl hb3) rfl ?_
    refine WL_skip (gdN (b := (!(w1).isNone)) 5 rfl rfl hb3) rfl ?_
    refine WL_skip (gdN (b := (!(w1).isNone)) 5 rfl rfl hb3) rfl ?_
    refine WL_val gd0 ((o_pickF (v := .bool false) rfl hb3 rfl) _) rfl ?_
    refine WL_val gd0 ((o_assign (v := .bool false) rfl) _) rfl ?_
    refine WL_nil ?_
    refine nrm ?_
    refine WC_ret ?_
    refine rtE ?_
    exact gv1 rfl rfl h

def F52_b1 (s_a1 : Option Addr) (s_n2 : Nat) (i7 : Int) (j9 : Int) (w10 : World) (nx10 : Int → Int → World → Prop) (k : Value → World → Prop) : Prop :=
  if i7 < j9 then
  ∃ (p15 : Addr), s_a1 = some p15 ∧ (0 : Int) ≤ j9 ∧ j9 < (s_n2 : Int) ∧ ∃ (x17 x18 : Int) (x19 : Bool) (x_a20 : Option Addr) (x_n21 x_c22 : Nat) (x23 : Int), Cells w10.drew (p15.add (j9.toNat * 5)) 0 [.int .i64 x17, .int .i64 x18, .bool x19, .slice x_a20 x_n21 x_c22, .int .i64 x23] ∧ (0 : Int) ≤ i7 ∧ i7 < (s_n2 : Int) ∧ ∃ (x27 x28 : Int) (x29 : Bool) (x_a30 : Option Addr) (x_n31 x_c32 : Nat) (x33 : Int), Cells w10.drew (p15.add (i7.toNat * 5)) 0 [.int .i64 x27, .int .i64 x28, .bool x29, .slice x_a30 x_n31 x_c32, .int .i64 x33] ∧ (0 : Int) ≤ i7 ∧ i7 < (s_n2 : Int) ∧ PutAll w10.drew (p15.add (i7.toNat * 5)) [.int .i64 x17, .int .i64 x18, .bool x19, .slice x_a20 x_n21 x_c22, .int .i64 x23] (fun w37 => (0 : Int) ≤ j9 ∧ j9 < (s_n2 : Int) ∧ PutAll w37 (p15.add (j9.toNat * 5)) [.int .i64 x27, .int .i64 x28, .bool x29, .slice x_a30 x_n31 x_c32, .int .i64 x33] (fun w41 => nx10 (IntKind.i64.wrap (i7 + 1)) (IntKind.i64.wrap (j9 - 1)) w41))
else
  k (.tuple #[]) w10
/-- slices.Reverse   spacecraft hk.entry,spacecraft hk.entry  -/
def F52 (s_a1 : Option Addr) (s_n2 : Nat) (s_c3 : Nat) (w4 : World) (k : Value → World → Prop) : Prop :=
  LoopP (fun (s : Int × Int) w' nx' => F52_b1 s_a1 s_n2 (s.1) (s.2) w' (fun x0 x1 w => nx' (x0, x1) w) k) (0, (IntKind.i64.wrap ((s_n2 : Int) - 1))) w4
set_option maxRecDepth 100000 in
set_option maxHeartbeats 2000000 in
theorem w52 (s_a1 : Option Addr) (s_n2 : Nat) (s_c3 : Nat) (w4 : World) (k : Value → World → Prop) (h : F52 s_a1 s_n2 s_c3 w4 k) : Does Try.prog 52 #[.slice s_a1 s_n2 s_c3] w4 k := by
  refine enter 28 Try.func52 rfl rfl rfl ?_
  intro ρ hρ
  have e0 := hρ 0 _ rfl
  unfold F52 at h
  refine WC_seq ?_
  refine WC_region ?_
  refine WL_val gd0 ((o_move (v := .slice s_a1 s_n2 s_c3) (by exact e0)) _) rfl ?_
  refine WL_val gd0 ((o_len Try.underlying45 rfl) _) rfl ?_
  refine WL_val gd0 ((o_sub rfl rfl) _) rfl ?_
  refine WL_val gd0 ((o_assign (v := .int .i64 0) rfl) _) rfl ?_
  refine WL_val gd0 ((o_assign (v := .int .i64 (IntKind.i64.wrap ((s_n2 : Int) - 1))) rfl) _) rfl ?_
  refine WL_nil ?_
  refine nrm ?_
  refine WC_block ?_
  obtain ⟨J10, ⟨n10, h0⟩, hr10⟩ := h
  refine WC_loop (fun n ρ w' => ∃ (i7 j9 : Int), ρ 2 = .int .i64 i7 ∧ ρ 3 = .int .i64 j9 ∧ ρ 0 = .slice s_a1 s_n2 s_c3 ∧ J10 n (i7, j9) w') ⟨n10, _, _, rfl, rfl, e0, h0⟩ ?_
  rintro n10 ρ w10 ⟨i7, j9, e2_6, e3_8, e0_5, h⟩
  have h : F52_b1 s_a1 s_n2 i7 j9 w10 (fun x0 x1 w => ∃ m, m < n10 ∧ J10 m (x0, x1) w) k := hr10 n10 (i7, j9) w10 h
  unfold F52_b1 at h
  refine WC_seq ?_
  refine WC_seq ?_
  refine WC_region ?_
  refine WL_val gd0 ((o_move (v := .int .i64 i7) (by exact e2_6)) _) rfl ?_
  refine WL_val gd0 ((o_move (v := .int .i64 j9) (by exact e3_8)) _) rfl ?_
  refine WL_val gd0 ((o_lss rfl rfl) _) rfl ?_
  refine WL_nil ?_
  refine nrm ?_
  refine WC_cond (t := (decide (i7 < j9))) rfl (fun hb12 => ?_) (fun hb12 => ?_)
  · rw [if_pos (of_decide_eq_true hb12)] at h
    refine WC_skip ?_
    refine nrm ?_
    refine WC_seq ?_
    refine WC_block ?_
    refine WC_draws [13, 15] (.look 0 (.look 1 (.look 2 (.look 3 (.look 4 (.look 5 (.look 6 (.look 7 (.look 8 (.look 9 (.look 10 (.look 11 (.look 12 (.act 13 (.look 14 (.act 15 .nil)))))))))))))))) Try.mixed (by kernel_rfl) ?_
    refine WQ_val rfl gd0 (o_move (v := .slice s_a1 s_n2 s_c3) (by exact e0_5)) rfl ?_
    refine WQ_val rfl gd0 (o_move (v := .int .i64 i7) (by exact e2_6)) rfl ?_
    refine WQ_val rfl gd0 (o_move (v := .slice s_a1 s_n2 s_c3) (by exact e0_5)) rfl ?_
    refine WQ_val rfl gd0 (o_move (v := .int .i64 j9) (by exact e3_8)) rfl ?_
    refine WQ_val rfl gd0 (o_move (v := .slice s_a1 s_n2 s_c3) (by exact e0_5)) rfl ?_
    refine WQ_val rfl gd0 (o_move (v := .int .i64 j9) (by exact e3_8)) rfl ?_
    obtain ⟨p15, q16, h⟩ := h
    obtain ⟨l13, u14, h⟩ := h
    refine WQ_val rfl gd0 (o_indexAddr Try.underlying45 Try.sizeOf66 (by exact (congrArg (fun z => Value.slice z s_n2 s_c3) q16)) rfl l13 u14) rfl ?_
    obtain ⟨x17, x18, x19, x_a20, x_n21, x_c22, x23, hc24, h⟩ := h
    refine WQ_look (fun w => Cells w (p15.add (j9.toNat * 5)) 0 [.int .i64 x17, .int .i64 x18, .bool x19, .slice x_a20 x_n21 x_c22, .int .i64 x23]) rfl gd0 (fun w hc => (o_loadAgg (vs := [.int .i64 x17, .int .i64 x18, .bool x19, .slice x_a20 x_n21 x_c22, .int .i64 x23]) Try.isAgg66 Try.sizeOf66 rfl hc)) hc24 rfl ?_
    refine WQ_val rfl gd0 (o_move (v := .slice s_a1 s_n2 s_c3) (by exact e0_5)) rfl ?_
    refine WQ_val rfl gd0 (o_move (v := .int .i64 i7) (by exact e2_6)) rfl ?_
    obtain ⟨l25, u26, h⟩ := h
    refine WQ_val rfl gd0 (o_indexAddr Try.underlying45 Try.sizeOf66 (by exact (congrArg (fun z => Value.slice z s_n2 s_c3) q16)) rfl l25 u26) rfl ?_
    obtain ⟨x27, x28, x29, x_a30, x_n31, x_c32, x33, hc34, h⟩ := h
    refine WQ_look (fun w => Cells w (p15.add (i7.toNat * 5)) 0 [.int .i64 x27, .int .i64 x28, .bool x29, .slice x_a30 x_n31 x_c32, .int .i64 x33]) rfl gd0 (fun w hc => (o_loadAgg (vs := [.int .i64 x27, .int .i64 x28, .bool x29, .slice x_a30 x_n31 x_c32, .int .i64 x33]) Try.isAgg66 Try.sizeOf66 rfl hc)) hc34 rfl ?_
    obtain ⟨l35, u36, h⟩ := h
    refine WQ_val rfl gd0 (o_indexAddr Try.underlying45 Try.sizeOf66 (by exact (congrArg (fun z => Value.slice z s_n2 s_c3) q16)) rfl l35 u36) rfl ?_
    obtain ⟨c38, h⟩ := h
    refine WQ_do rfl gd0 (o_storeAgg (vs := [.int .i64 x17, .int .i64 x18, .bool x19, .slice x_a20 x_n21 x_c22, .int .i64 x23]) Try.sizeOf66 rfl rfl rfl c38) (by exact ⟨⟨trivial, depT (by kernel_rfl)⟩, depT (by kernel_rfl)⟩) ?_
    generalize hw37 : setAll w10.drew (p15.add (i7.toNat * 5)) 0 [.int .i64 x17, .int .i64 x18, .bool x19, .slice x_a20 x_n21 x_c22, .int .i64 x23] = w37 at h ⊢
    try dsimp only at h
    obtain ⟨l39, u40, h⟩ := h
    refine WQ_val rfl gd0 (o_indexAddr Try.underlying45 Try.sizeOf66 (by exact (congrArg (fun z => Value.slice z s_n2 s_c3) q16)) rfl l39 u40) rfl ?_
    obtain ⟨c42, h⟩ := h
    refine WQ_do rfl gd0 (o_storeAgg (vs := [.int .i64 x27, .int .i64 x28, .bool x29, .slice x_a30 x_n31 x_c32, .int .i64 x33]) Try.sizeOf66 rfl rfl rfl c42) (by exact ⟨⟨trivial, depT (by kernel_rfl)⟩, depT (by kernel_rfl)⟩) ?_
    generalize hw41 : setAll w37 (p15.add (j9.toNat * 5)) 0 [.int .i64 x27, .int .i64 x28, .bool x29, .slice x_a30 x_n31 x_c32, .int .i64 x33] = w41 at h ⊢
    try dsimp only at h
    refine WQ_nil ?_
    refine nrmB ?_
    refine nrm ?_
    refine WC_region ?_
    refine WL_val gd0 ((o_move (v := .int .i64 i7) (by exact e2_6)) _) rfl ?_
    refine WL_val gd0 ((o_add rfl rfl) _) rfl ?_
    refine WL_val gd0 ((o_move (v := .int .i64 j9) (by exact e3_8)) _) rfl ?_
    refine WL_val gd0 ((o_sub rfl rfl) _) rfl ?_
    refine WL_val gd0 ((o_assign (v := .int .i64 (IntKind.i64.wrap (i7 + 1))) rfl) _) rfl ?_
    refine WL_val gd0 ((o_assign (v := .int .i64 (IntKind.i64.wrap (j9 - 1))) rfl) _) rfl ?_
    refine WL_nil ?_
    refine nrm ?_
    obtain ⟨m11, hm11, h⟩ := h
    exact ⟨m11, hm11, _, _, rfl, rfl, e0_5, h⟩
  · rw [if_neg (of_decide_eq_false hb12)] at h
    refine WC_exit ?_
    refine exT ?_
    refine exT ?_
    refine exB ?_
    refine ndE ?_
    exact gv0 rfl h

/-- (*spacecraft params.table spacecraft api.ParamDef ).find -/
def F53 (t1 : Option Addr) (id2 : Int) (w3 : World) (k : Value → World → Prop) : Prop :=
  ∃ (p4 : Addr), t1 = some p4 ∧ ∃ (x_a6 : Option Addr) (x_n7 x_c8 : Nat), w3.cell? p4 = some (.slice x_a6 x_n7 x_c8) ∧ Does Try.prog 54 #[.slice x_a6 x_n7 x_c8, .int .i64 id2] w3 (fun v w10 => ∃ (r11 : Int) (r12 : Bool), v = .tuple #[.int .i64 r11, .bool r12] ∧ k (.tuple #[.int .i64 r11, .bool r12]) w10)
set_option maxRecDepth 100000 in
set_option maxHeartbeats 2000000 in
theorem w53 (t1 : Option Addr) (id2 : Int) (w3 : World) (k : Value → World → Prop) (h : F53 t1 id2 w3 k) : Does Try.prog 53 #[.pointer t1, .int .i64 id2] w3 k := by
  refine enter 14 Try.func53 rfl rfl rfl ?_
  intro ρ hρ
  have e0 := hρ 0 _ rfl
  have e1 := hρ 1 _ rfl
  unfold F53 at h
  refine WC_seq ?_
  refine WC_region ?_
  refine WL_val gd0 ((o_assign (v := .int .i64 0) rfl) _) rfl ?_
  refine WL_val gd0 ((o_assign (v := .bool false) rfl) _) rfl ?_
  refine WL_nil ?_
  refine nrm ?_
  refine WC_seq ?_
  refine WC_region ?_
  refine WL_val gd0 ((o_move (v := .pointer t1) (by exact e0)) _) rfl ?_
  obtain ⟨p4, q5, h⟩ := h
  refine WL_val gd0 ((o_nilCheck (by exact (congrArg Value.pointer q5))) _) rfl ?_
  refine WL_val gd0 ((o_fieldAddr0 Try.underlying78 rfl Try.sizeOf26 rfl rfl rfl) _) rfl ?_
  obtain ⟨x_a6, x_n7, x_c8, hc9, h⟩ := h
  refine WL_val gd0 (o_load Try.isAgg26 rfl hc9) rfl ?_
  refine WL_val gd0 ((o_move (v := .int .i64 id2) (by exact e1)) _) rfl ?_
  refine WL_call gd0 (o_call Try.call54 (argCons rfl (argCons rfl argNil)) _) rfl (h.mono ?_)
  rintro _ w10 ⟨r11, r12, rfl, h⟩
  refine WL_val gd0 ((o_extract (vs := [.int .i64 r11, .bool r12]) (r := .int .i64 r11) rfl rfl) _) rfl ?_
  refine WL_val gd0 ((o_extract (vs := [.int .i64 r11, .bool r12]) (r := .bool r12) rfl rfl) _) rfl ?_
  refine WL_val gd0 ((o_assign (v := .int .i64 r11) rfl) _) rfl ?_
  refine WL_val gd0 ((o_assign (v := .bool r12) rfl) _) rfl ?_
  refine WL_nil ?_
  refine nrm ?_
  refine WC_ret ?_
  refine rtE ?_
  exact gv2 rfl rfl rfl h

def F54_b1 (x_a1 : Option Addr) (x_n2 : Nat) (target4 : Int) (i10 : Int) (j12 : Int) (w13 : World) (nx13 : Int → Int → World → Prop) (k : Value → World → Prop) : Prop :=
  if i10 < j12 then
  ∃ (p18 : Addr), x_a1 = some p18 ∧ (0 : Int) ≤ IntKind.i64.wrap (shr .u64 (IntKind.u64.wrap (IntKind.i64.wrap (i10 + j12))) 1) ∧ IntKind.i64.wrap (shr .u64 (IntKind.u64.wrap (IntKind.i64.wrap (i10 + j12))) 1) < (x_n2 : Int) ∧ ∃ (x20 : Int), w13.cell? (p18.add ((IntKind.i64.wrap (shr .u64 (IntKind.u64.wrap (IntKind.i64.wrap (i10 + j12))) 1)).toNat)) = some (.int .i64 x20) ∧ Does Try.prog 55 #[.int .i64 x20, .int .i64 target4] w13 (fun v w22 => ∃ (x23 : Bool), v = .bool x23 ∧ if x23 = true then
    nx13 (IntKind.i64.wrap ((IntKind.i64.wrap (shr .u64 (IntKind.u64.wrap (IntKind.i64.wrap (i10 + j12))) 1)) + 1)) j12 w22
  else
    nx13 i10 (IntKind.i64.wrap (shr .u64 (IntKind.u64.wrap (IntKind.i64.wrap (i10 + j12))) 1)) w22)
else
  if i10 < (x_n2 : Int) then
    ∃ (p28 : Addr), x_a1 = some p28 ∧ (0 : Int) ≤ i10 ∧ i10 < (x_n2 : Int) ∧ ∃ (x30 : Int), w13.cell? (p28.add i10.toNat) = some (.int .i64 x30) ∧ if x30 = target4 then
      k (.tuple #[.int .i64 i10, .bool true]) w13
    else
      (0 : Int) ≤ i10 ∧ i10 < (x_n2 : Int) ∧ ∃ (x35 : Int), w13.cell? (p28.add i10.toNat) = some (.int .i64 x35) ∧ Does Try.prog 56 #[.int .i64 x35] w13 (fun v w37 => ∃ (x38 : Bool), v = .bool x38 ∧ if x38 = true then
        Does Try.prog 56 #[.int .i64 target4] w37 (fun v w40 => ∃ (x41 : Bool), v = .bool x41 ∧ k (.tuple #[.int .i64 i10, .bool x41]) w40)
      else
        k (.tuple #[.int .i64 i10, .bool false]) w37)
  else
    k (.tuple #[.int .i64 i10, .bool false]) w13
/-- slices.BinarySearch   int,int  -/
def F54 (x_a1 : Option Addr) (x_n2 : Nat) (x_c3 : Nat) (target4 : Int) (w5 : World) (k : Value → World → Prop) : Prop :=
  LoopP (fun (s : Int × Int) w' nx' => F54_b1 x_a1 x_n2 target4 (s.1) (s.2) w' (fun x0 x1 w => nx' (x0, x1) w) k) (0, (x_n2 : Int)) w5
set_option maxRecDepth 100000 in
set_option maxHeartbeats 2000000 in
theorem w54 (x_a1 : Option Addr) (x_n2 : Nat) (x_c3 : Nat) (target4 : Int) (w5 : World) (k : Value → World → Prop) (h : F54 x_a1 x_n2 x_c3 target4 w5 k) : Does Try.prog 54 #[.slice x_a1 x_n2 x_c3, .int .i64 target4] w5 k := by
  refine enter 54 Try.func54 rfl rfl rfl ?_
  intro ρ hρ
  have e0 := hρ 0 _ rfl
  have e1 := hρ 1 _ rfl
  unfold F54 at h
  refine WC_seq ?_
  refine WC_region ?_
  refine WL_val gd0 ((o_assign (v := .int .i64 0) rfl) _) rfl ?_
  refine WL_val gd0 ((o_assign (v := .bool false) rfl) _) rfl ?_
  refine WL_nil ?_
  refine nrm ?_
  refine WC_seq ?_
  refine WC_region ?_
  refine WL_val gd0 ((o_move (v := .slice x_a1 x_n2 x_c3) (by exact e0)) _) rfl ?_
  refine WL_val gd0 ((o_len Try.underlying26 rfl) _) rfl ?_
  refine WL_val gd0 ((o_assign (v := .int .i64 (x_n2 : Int)) rfl) _) rfl ?_
  refine WL_nil ?_
  refine nrm ?_
  refine WC_seq ?_
  refine WC_region ?_
  refine WL_val gd0 ((o_move (v := .int .i64 (x_n2 : Int)) rfl) _) rfl ?_
  refine WL_val gd0 ((o_assign (v := .int .i64 0) rfl) _) rfl ?_
  refine WL_val gd0 ((o_assign (v := .int .i64 (x_n2 : Int)) rfl) _) rfl ?_
  refine WL_nil ?_
  refine nrm ?_
  refine WC_seq ?_
  refine WC_block ?_
  obtain ⟨J13, ⟨n13, h0⟩, hr13⟩ := h
  refine WC_loop (fun n ρ w' => ∃ (i10 j12 : Int), ρ 7 = .int .i64 i10 ∧ ρ 8 = .int .i64 j12 ∧ ρ 0 = .slice x_a1 x_n2 x_c3 ∧ ρ 1 = .int .i64 target4 ∧ ρ 6 = .int .i64 (x_n2 : Int) ∧ J13 n (i10, j12) w') ⟨n13, _, _, rfl, rfl, e0, e1, rfl, h0⟩ ?_
  rintro n13 ρ w13 ⟨i10, j12, e7_9, e8_11, e0_6, e1_7, e6_8, h⟩
  have h : F54_b1 x_a1 x_n2 target4 i10 j12 w13 (fun x0 x1 w => ∃ m, m < n13 ∧ J13 m (x0, x1) w) k := hr13 n13 (i10, j12) w13 h
  unfold F54_b1 at h
  refine WC_seq ?_
  refine WC_seq ?_
  refine WC_region ?_
  refine WL_val gd0 ((o_move (v := .int .i64 i10) (by exact e7_9)) _) rfl ?_
  refine WL_val gd0 ((o_move (v := .int .i64 j12) (by exact e8_11)) _) rfl ?_
  refine WL_val gd0 ((o_lss rfl rfl) _) rfl ?_
  refine WL_nil ?_
  refine nrm ?_
  refine WC_cond (t := (decide (i10 < j12))) rfl (fun hb15 => ?_) (fun hb15 => ?_)
  · rw [if_pos (of_decide_eq_true hb15)] at h
    refine WC_skip ?_
    refine nrm ?_
    refine WC_block ?_
    refine WC_seq ?_
    refine WC_region ?_
    refine WL_val gd0 ((o_move (v := .int .i64 i10) (by exact e7_9)) _) rfl ?_
    refine WL_val gd0 ((o_move (v := .int .i64 j12) (by exact e8_11)) _) rfl ?_
    refine WL_val gd0 ((o_add rfl rfl) _) rfl ?_
    refine WL_val gd0 ((o_conv Try.underlying3 Try.underlying98 rfl) _) rfl ?_
    refine WL_val gd0 ((o_shr rfl rfl (by decide)) _) rfl ?_
    refine WL_val gd0 ((o_conv Try.underlying98 Try.underlying3 rfl) _) rfl ?_
    refine WL_val gd0 ((o_assign (v := .int .i64 (IntKind.i64.wrap (shr .u64 (IntKind.u64.wrap (IntKind.i64.wrap (i10 + j12))) 1))) rfl) _) rfl ?_
    refine WL_nil ?_
    refine nrm ?_
    refine WC_seq ?_
    refine WC_region ?_
    refine WL_val gd0 ((o_move (v := .slice x_a1 x_n2 x_c3) (by exact e0_6)) _) rfl ?_
    refine WL_val gd0 ((o_move (v := .int .i64 (IntKind.i64.wrap (shr .u64 (IntKind.u64.wrap (IntKind.i64.wrap (i10 + j12))) 1))) rfl) _) rfl ?_
    obtain ⟨p18, q19, h⟩ := h
    obtain ⟨l16, u17, h⟩ := h
    refine WL_val gd0 ((o_indexAddr1 Try.underlying26 Try.sizeOf3 (by exact (congrArg (fun z => Value.slice z x_n2 x_c3) q19)) rfl l16 u17) _) rfl ?_
    obtain ⟨x20, hc21, h⟩ := h
    refine WL_val gd0 (o_load Try.isAgg3 rfl hc21) rfl ?_
    refine WL_val gd0 ((o_move (v := .int .i64 target4) (by exact e1_7)) _) rfl ?_
    refine WL_call gd0 (o_call Try.call55 (argCons rfl (argCons rfl argNil)) _) rfl (h.mono ?_)
    rintro _ w22 ⟨x23, rfl, h⟩
    refine WL_nil ?_
    refine nrm ?_
    refine WC_cond (t := x23) rfl (fun hb24 => ?_) (fun hb24 => ?_)
    · rw [if_pos hb24] at h
      refine WC_region ?_
      refine WL_val gd0 ((o_move (v := .int .i64 (IntKind.i64.wrap (shr .u64 (IntKind.u64.wrap (IntKind.i64.wrap (i10 + j12))) 1))) rfl) _) rfl ?_
      refine WL_val gd0 ((o_add rfl rfl) _) rfl ?_
      refine WL_val gd0 ((o_assign (v := .int .i64 (IntKind.i64.wrap ((IntKind.i64.wrap (shr .u64 (IntKind.u64.wrap (IntKind.i64.wrap (i10 + j12))) 1)) + 1))) rfl) _) rfl ?_
      refine WL_nil ?_
      refine nrmB ?_
      refine nrm ?_
      obtain ⟨m14, hm14, h⟩ := h
      exact ⟨m14, hm14, _, _, rfl, e8_11, e0_6, e1_7, e6_8, h⟩
    · rw [if_neg (neT hb24)] at h
      refine WC_region ?_
      refine WL_val gd0 ((o_move (v := .int .i64 (IntKind.i64.wrap (shr .u64 (IntKind.u64.wrap (IntKind.i64.wrap (i10 + j12))) 1))) rfl) _) rfl ?_
      refine WL_val gd0 ((o_assign (v := .int .i64 (IntKind.i64.wrap (shr .u64 (IntKind.u64.wrap (IntKind.i64.wrap (i10 + j12))) 1))) rfl) _) rfl ?_
      refine WL_nil ?_
      refine nrmB ?_
      refine nrm ?_
      obtain ⟨m14, hm14, h⟩ := h
      exact ⟨m14, hm14, _, _, e7_9, rfl, e0_6, e1_7, e6_8, h⟩
  · rw [if_neg (of_decide_eq_false hb15)] at h
    refine WC_exit ?_
    refine exT ?_
    refine exT ?_
    refine exB ?_
    refine nrm ?_
    refine WC_seq ?_
    refine WC_region ?_
    refine WL_val gd0 ((o_move (v := .int .i64 i10) (by exact e7_9)) _) rfl ?_
    refine WL_val gd0 ((o_move (v := .int .i64 i10) (by exact e7_9)) _) rfl ?_
    refine WL_val gd0 ((o_move (v := .int .i64 (x_n2 : Int)) (by exact e6_8)) _) rfl ?_
    refine WL_val gd0 ((o_lss rfl rfl) _) rfl ?_
    refine WL_val gd0 ((o_move (v := .bool (decide (i10 < (x_n2 : Int)))) rfl) _) rfl ?_
    refine bsplit (decide (i10 < (x_n2 : Int))) (fun hb25 => ?_) (fun hb25 => ?_)
    · rw [if_pos (of_decide_eq_true hb25)] at h
      refine WL_val (gdY (b := (decide (i10 < (x_n2 : Int)))) 35 rfl rfl hb25) ((o_move (v := .slice x_a1 x_n2 x_c3) (by exact e0_6)) _) rfl ?_
      refine WL_val (gdY (b := (decide (i10 < (x_n2 : Int)))) 35 rfl rfl hb25) ((o_move (v := .int .i64 i10) (by exact e7_9)) _) rfl ?_
      obtain ⟨p28, q29, h⟩ := h
      obtain ⟨l26, u27, h⟩ := h
      refine WL_val (gdY (b := (decide (i10 < (x_n2 : Int)))) 35 rfl rfl hb25) ((o_indexAddr1 Try.underlying26 Try.sizeOf3 (by exact (congrArg (fun z => Value.slice z x_n2 x_c3) q29)) rfl l26 u27) _) rfl ?_
      obtain ⟨x30, hc31, h⟩ := h
      refine WL_val (gdY (b := (decide (i10 < (x_n2 : Int)))) 35 rfl rfl hb25) (o_load Try.isAgg3 rfl hc31) rfl ?_
      refine WL_val (gdY (b := (decide (i10 < (x_n2 : Int)))) 35 rfl rfl hb25) ((o_move (v := .int .i64 target4) (by exact e1_7)) _) rfl ?_
      refine WL_val (gdY (b := (decide (i10 < (x_n2 : Int)))) 35 rfl rfl hb25) ((o_eql rfl rfl) _) rfl ?_
      refine WL_val (gdY (b := (decide (i10 < (x_n2 : Int)))) 35 rfl rfl hb25) ((o_move (v := .bool (decide (x30 = target4))) rfl) _) rfl ?_
      refine bsplit (decide (x30 = target4)) (fun hb32 => ?_) (fun hb32 => ?_)
      · rw [if_pos (of_decide_eq_true hb32)] at h
        refine WL_skip (gdN (b := (decide (x30 = target4))) 42 rfl rfl hb32) rfl ?_
        refine WL_skip (gdN (b := (decide (x30 = target4))) 42 rfl rfl hb32) rfl ?_
        refine WL_skip (gdN (b := (decide (x30 = target4))) 42 rfl rfl hb32) rfl ?_
        refine WL_skip (gdN (b := (decide (x30 = target4))) 42 rfl rfl hb32) rfl ?_
        refine WL_skip (gdN (b := (decide (x30 = target4))) 42 rfl rfl hb32) rfl ?_
        refine WL_skip (gdN (b := (decide (x30 = target4))) 42 rfl rfl hb32) rfl ?_
        refine WL_skip (gdU 48 rfl rfl) rfl ?_
        refine WL_skip (gdU 48 rfl rfl) rfl ?_
        refine WL_skip (gdN (b := (decide (x30 = target4))) 42 rfl rfl hb32) rfl ?_
        refine WL_val (gdY (b := (decide (i10 < (x_n2 : Int)))) 35 rfl rfl hb25) ((o_pickT (v := .bool true) rfl hb32 rfl) _) rfl ?_
        refine WL_val gd0 ((o_pickT (v := .bool true) rfl hb25 rfl) _) rfl ?_
        refine WL_val gd0 ((o_assign (v := .int .i64 i10) rfl) _) rfl ?_
        refine WL_val gd0 ((o_assign (v := .bool true) rfl) _) rfl ?_
        refine WL_nil ?_
        refine nrm ?_
        refine WC_ret ?_
        refine rtE ?_
        exact gv2 rfl rfl rfl h
      · rw [if_neg (of_decide_eq_false hb32)] at h
        refine WL_val (gdY (b := (decide (x30 = target4))) 42 rfl rfl hb32) ((o_move (v := .slice x_a1 x_n2 x_c3) (by exact e0_6)) _) rfl ?_
        refine WL_val (gdY (b := (decide (x30 = target4))) 42 rfl rfl hb32) ((o_move (v := .int .i64 i10) (by exact e7_9)) _) rfl ?_
        obtain ⟨l33, u34, h⟩ := h
        refine WL_val (gdY (b := (decide (x30 = target4))) 42 rfl rfl hb32) ((o_indexAddr1 Try.underlying26 Try.sizeOf3 (by exact (congrArg (fun z => Value.slice z x_n2 x_c3) q29)) rfl l33 u34) _) rfl ?_
        obtain ⟨x35, hc36, h⟩ := h
        refine WL_val (gdY (b := (decide (x30 = target4))) 42 rfl rfl hb32) (o_load Try.isAgg3 rfl hc36) rfl ?_
        refine WL_call (gdY (b := (decide (x30 = target4))) 42 rfl rfl hb32) (o_call Try.call56 (argCons rfl argNil) _) rfl (h.mono ?_)
        rintro _ w37 ⟨x38, rfl, h⟩
        refine WL_val (gdY (b := (decide (x30 = target4))) 42 rfl rfl hb32) ((o_move (v := .bool x38) rfl) _) rfl ?_
        refine bsplit x38 (fun hb39 => ?_) (fun hb39 => ?_)
        · rw [if_pos hb39] at h
          refine WL_val (gdY (b := x38) 48 rfl rfl hb39) ((o_move (v := .int .i64 target4) (by exact e1_7)) _) rfl ?_
          refine WL_call (gdY (b := x38) 48 rfl rfl hb39) (o_call Try.call56 (argCons rfl argNil) _) rfl (h.mono ?_)
          rintro _ w40 ⟨x41, rfl, h⟩
          refine WL_val (gdY (b := (decide (x30 = target4))) 42 rfl rfl hb32) ((o_pickT (v := .bool x41) rfl hb39 rfl) _) rfl ?_
          refine WL_val (gdY (b := (decide (i10 < (x_n2 : Int)))) 35 rfl rfl hb25) ((o_pickF (v := .bool x41) rfl hb32 rfl) _) rfl ?_
          refine WL_val gd0 ((o_pickT (v := .bool x41) rfl hb25 rfl) _) rfl ?_
          refine WL_val gd0 ((o_assign (v := .int .i64 i10) rfl) _) rfl ?_
          refine WL_val gd0 ((o_assign (v := .bool x41) rfl) _) rfl ?_
          refine WL_nil ?_
          refine nrm ?_
          refine WC_ret ?_
          refine rtE ?_
          exact gv2 rfl rfl rfl h
        · rw [if_neg (neT hb39)] at h
          refine WL_skip (gdN (b := x38) 48 rfl rfl hb39) rfl ?_
          refine WL_skip (gdN (b := x38) 48 rfl rfl hb39) rfl ?_
          refine WL_val (gdY (b := (decide (x30 = target4))) 42 rfl rfl hb32) ((o_pickF (v := .bool false) rfl hb39 rfl) _) rfl ?_
          refine WL_val (gdY (b := (decide (i10 < (x_n2 : Int)))) 35 rfl rfl hb25) ((o_pickF (v := .bool false) rfl hb32 rfl) _) rfl ?_
          refine WL_val gd0 ((o_pickT (v := .bool false) rfl hb25 rfl) _) rfl ?_
          refine WL_val gd0 ((o_assign (v := .int .i64 i10) rfl) _) rfl ?_
          refine WL_val gd0 ((o_assign (v := .bool false) rfl) _) rfl ?_
          refine WL_nil ?_
          refine nrm ?_
          refine WC_ret ?_
          refine rtE ?_
          exact gv2 rfl rfl rfl h
    · rw [if_neg (of_decide_eq_false hb25)] at h
      refine WL_skip (gdN (b := (decide (i10 < (x_n2 : Int)))) 35 rfl rfl hb25) rfl ?_
      refine WL_skip (gdN (b := (decide (i10 < (x_n2 : Int)))) 35 rfl rfl hb25) rfl ?_
      refine WL_skip (gdN (b := (decide (i10 < (x_n2 : Int)))) 35 rfl rfl hb25) rfl ?_
      refine WL_skip (gdN (b := (decide (i10 < (x_n2 : Int)))) 35 rfl rfl hb25) rfl ?_
      refine WL_skip (gdN (b := (decide (i10 < (x_n2 : Int)))) 35 rfl rfl hb25) rfl ?_
      refine WL_skip (gdN (b := (decide (i10 < (x_n2 : Int)))) 35 rfl rfl hb25) rfl ?_
      refine WL_skip (gdN (b := (decide (i10 < (x_n2 : Int)))) 35 rfl rfl hb25) rfl ?_
      refine WL_skip (gdU 42 rfl rfl) rfl ?_
      refine WL_skip (gdU 42 rfl rfl) rfl ?_
      refine WL_skip (gdU 42 rfl rfl) rfl ?_
      refine WL_skip (gdU 42 rfl rfl) rfl ?_
      refine WL_skip (gdU 42 rfl rfl) rfl ?_
      refine WL_skip (gdU 42 rfl rfl) rfl ?_
      refine WL_skip (gdU 48 rfl rfl) rfl ?_
      refine WL_skip (gdU 48 rfl rfl) rfl ?_
      refine WL_skip (gdU 42 rfl rfl) rfl ?_
      refine WL_skip (gdN (b := (decide (i10 < (x_n2 : Int)))) 35 rfl rfl hb25) rfl ?_
      refine WL_val gd0 ((o_pickF (v := .bool false) rfl hb25 rfl) _) rfl ?_
      refine WL_val gd0 ((o_assign (v := .int .i64 i10) rfl) _) rfl ?_
      refine WL_val gd0 ((o_assign (v := .bool false) rfl) _) rfl ?_
      refine WL_nil ?_
      refine nrm ?_
      refine WC_ret ?_
      refine rtE ?_
      exact gv2 rfl rfl rfl h

/-- cmp.Less int  -/
def F55 (x1 : Int) (y2 : Int) (w3 : World) (k : Value → World → Prop) : Prop :=
  Does Try.prog 57 #[.int .i64 x1] w3 (fun v w4 => ∃ (x5 : Bool), v = .bool x5 ∧ if x5 = true then
  Does Try.prog 57 #[.int .i64 y2] w4 (fun v w7 => ∃ (x8 : Bool), v = .bool x8 ∧ if (!x8) = true then
    k (.bool true) w7
  else
    k (.bool (decide (x1 < y2))) w7)
else
  k (.bool (decide (x1 < y2))) w4)
set_option maxRecDepth 100000 in
set_option maxHeartbeats 2000000 in
theorem w55 (x1 : Int) (y2 : Int) (w3 : World) (k : Value → World → Prop) (h : F55 x1 y2 w3 k) : Does Try.prog 55 #[.int .i64 x1, .int .i64 y2] w3 k := by
  refine enter 17 Try.func55 rfl rfl rfl ?_
  intro ρ hρ
  have e0 := hρ 0 _ rfl
  have e1 := hρ 1 _ rfl
  unfold F55 at h
  refine WC_seq ?_
  refine WC_region ?_
  refine WL_val gd0 ((o_assign (v := .bool false) rfl) _) rfl ?_
  refine WL_nil ?_
  refine nrm ?_
  refine WC_seq ?_
  refine WC_region ?_
  refine WL_val gd0 ((o_move (v := .int .i64 x1) (by exact e0)) _) rfl ?_
  refine WL_call gd0 (o_call Try.call57 (argCons rfl argNil) _) rfl (h.mono ?_)
  rintro _ w4 ⟨x5, rfl, h⟩
  refine WL_val gd0 ((o_move (v := .bool x5) rfl) _) rfl ?_
  refine bsplit x5 (fun hb6 => ?_) (fun hb6 => ?_)
  · rw [if_pos hb6] at h
    refine WL_val (gdY (b := x5) 7 rfl rfl hb6) ((o_move (v := .int .i64 y2) (by exact e1)) _) rfl ?_
    refine WL_call (gdY (b := x5) 7 rfl rfl hb6) (o_call Try.call57 (argCons rfl argNil) _) rfl (h.mono ?_)
    rintro _ w7 ⟨x8, rfl, h⟩
    refine WL_val (gdY (b := x5) 7 rfl rfl hb6) ((o_not rfl) _) rfl ?_
    refine WL_val gd0 ((o_pickT (v := .bool (!x8)) rfl hb6 rfl) _) rfl ?_
    refine WL_val gd0 ((o_move (v := .bool (!x8)) rfl) _) rfl ?_
    refine bsplit (!x8) (fun hb9 => ?_) (fun hb9 => ?_)
    · rw [if_pos hb9] at h
      refine WL_skip (gdN (b := (!x8)) 12 rfl rfl hb9) rfl ?_
      refine WL_skip (gdN (b := (!x8)) 12 rfl rfl hb9) rfl ?_
      refine WL_skip (gdN (b := (!x8)) 12 rfl rfl hb9) rfl ?_
      refine WL_val gd0 ((o_pickT (v := .bool true) rfl hb9 rfl) _) rfl ?_
      refine WL_val gd0 ((o_assign (v := .bool true) rfl) _) rfl ?_
      refine WL_nil ?_
      refine nrm ?_
      refine WC_ret ?_
      refine rtE ?_
      exact gv1 rfl rfl h
    · rw [if_neg (neT hb9)] at h
      refine WL_val (gdY (b := (!x8)) 12 rfl rfl hb9) ((o_move (v := .int .i64 x1) (by exact e0)) _) rfl ?_
      refine WL_val (gdY (b := (!x8)) 12 rfl rfl hb9) ((o_move (v := .int .i64 y2) (by exact e1)) _) rfl ?_
      refine WL_val (gdY (b := (!x8)) 12 rfl rfl hb9) ((o_lss rfl rfl) _) rfl ?_
      refine WL_val gd0 ((o_pickF (v := .bool (decide (x1 < y2))) rfl hb9 rfl) _) rfl ?_
      refine WL_val gd0 ((o_assign (v := .bool (decide (x1 < y2))) rfl) _) rfl ?_
      refine WL_nil ?_
      refine nrm ?_
      refine WC_ret ?_
      refine rtE ?_
      exact gv1 rfl rfl h
  · rw [if_neg (neT hb6)] at h
    refine WL_skip (gdN (b := x5) 7 rfl rfl hb6) rfl ?_
    refine WL_skip (gdN (b := x5) 7 rfl rfl hb6) rfl ?_
    refine WL_skip (gdN (b := x5) 7 rfl rfl hb6) rfl ?_
    refine WL_val gd0 ((o_pickF (v := .bool false) rfl hb6 rfl) _) rfl ?_
    refine WL_val gd0 ((o_move (v := .bool false) rfl) _) rfl ?_
    refine WL_val (gdY (b := false) 12 rfl rfl rfl) ((o_move (v := .int .i64 x1) (by exact e0)) _) rfl ?_
    refine WL_val (gdY (b := false) 12 rfl rfl rfl) ((o_move (v := .int .i64 y2) (by exact e1)) _) rfl ?_
    refine WL_val (gdY (b := false) 12 rfl rfl rfl) ((o_lss rfl rfl) _) rfl ?_
    refine WL_val gd0 ((o_pickF (v := .bool (decide (x1 < y2))) rfl rfl rfl) _) rfl ?_
    refine WL_val gd0 ((o_assign (v := .bool (decide (x1 < y2))) rfl) _) rfl ?_
    refine WL_nil ?_
    refine nrm ?_
    refine WC_ret ?_
    refine rtE ?_
    exact gv1 rfl rfl h

/-- slices.isNaN int  -/
def F56 (x1 : Int) (w2 : World) (k : Value → World → Prop) : Prop :=
  k (.bool (decide (x1 ≠ x1))) w2
set_option maxRecDepth 100000 in
set_option maxHeartbeats 2000000 in
theorem w56 (x1 : Int) (w2 : World) (k : Value → World → Prop) (h : F56 x1 w2 k) : Does Try.prog 56 #[.int .i64 x1] w2 k := by
  refine enter 6 Try.func56 rfl rfl rfl ?_
  intro ρ hρ
  have e0 := hρ 0 _ rfl
  unfold F56 at h
  refine WC_seq ?_
  refine WC_region ?_
  refine WL_val gd0 ((o_assign (v := .bool false) rfl) _) rfl ?_
  refine WL_nil ?_
  refine nrm ?_
  refine WC_seq ?_
  refine WC_region ?_
  refine WL_val gd0 ((o_move (v := .int .i64 x1) (by exact e0)) _) rfl ?_
  refine WL_val gd0 ((o_move (v := .int .i64 x1) (by exact e0)) _) rfl ?_
  refine WL_val gd0 ((o_neq rfl rfl) _) rfl ?_
  refine WL_val gd0 ((o_assign (v := .bool (decide (x1 ≠ x1))) rfl) _) rfl ?_
  refine WL_nil ?_
  refine nrm ?_
  refine WC_ret ?_
  refine rtE ?_
  exact gv1 rfl rfl h

/-- cmp.isNaN int  -/
def F57 (x1 : Int) (w2 : World) (k : Value → World → Prop) : Prop :=
  k (.bool (decide (x1 ≠ x1))) w2
set_option maxRecDepth 100000 in
set_option maxHeartbeats 2000000 in
theorem w57 (x1 : Int) (w2 : World) (k : Value → World → Prop) (h : F57 x1 w2 k) : Does Try.prog 57 #[.int .i64 x1] w2 k := by
  refine enter 6 Try.func57 rfl rfl rfl ?_
  intro ρ hρ
  have e0 := hρ 0 _ rfl
  unfold F57 at h
  refine WC_seq ?_
  refine WC_region ?_
  refine WL_val gd0 ((o_assign (v := .bool false) rfl) _) rfl ?_
  refine WL_nil ?_
  refine nrm ?_
  refine WC_seq ?_
  refine WC_region ?_
  refine WL_val gd0 ((o_move (v := .int .i64 x1) (by exact e0)) _) rfl ?_
  refine WL_val gd0 ((o_move (v := .int .i64 x1) (by exact e0)) _) rfl ?_
  refine WL_val gd0 ((o_neq rfl rfl) _) rfl ?_
  refine WL_val gd0 ((o_assign (v := .bool (decide (x1 ≠ x1))) rfl) _) rfl ?_
  refine WL_nil ?_
  refine nrm ?_
  refine WC_ret ?_
  refine rtE ?_
  exact gv1 rfl rfl h


end Go.Proofs.Ytcgkmmiokmbjdaa
