/-
  The forms of the functions, and their walks: written by a program of this claim (gen.py) off the elaborated translation.
-/
import Derived.Test.YtcdnljibefpchaaProg
import Derived.Test.YtcdnljibefpchaaBase
import Derived.KernelRfl
import Derived.Test.YtcdnljibefpchaaFormsP0
import Derived.Test.YtcdnljibefpchaaFormsP1
namespace Go.Proofs.Ytcdnljibefpchaa
open Go Go.Sh Go.Proofs
set_option linter.unusedVariables false
/-- (*spacecraft params.table spacecraft api.ParamDef ).append -/
def F35 (t1 : Option Addr) (id2 : Int) (v3 : Int) (v4 : Int) (v5 : Bool) (v6 : Int) (w7 : World) (k : Value → World → Prop) : Prop :=
  New w7 43 [.int .i64 v3, .int .i64 v4, .bool v5, .int .i64 v6] (fun p8 w9 => ∃ (p10 : Addr), t1 = some p10 ∧ ∃ (x_a12 : Option Addr) (x_n13 x_c14 : Nat), w9.drew.cell? p10 = some (.slice x_a12 x_n13 x_c14) ∧ ∃ (x_a16 : Option Addr) (x_n17 x_c18 : Nat), w9.drew.cell? (p10.add 1) = some (.slice x_a16 x_n17 x_c18) ∧ ∃ (x20 x21 : Int) (x22 : Bool) (x23 : Int), Cells w9.drew p8 0 [.int .i64 x20, .int .i64 x21, .bool x22, .int .i64 x23] ∧ (New w9.drew 3 [.int .i64 id2] (fun p25 w26 => w26.cell? p10 = some (.slice x_a12 x_n13 x_c14) ∧ w26.cell? (p10.add 1) = some (.slice x_a16 x_n17 x_c18) ∧ Cells w26 p8 0 [.int .i64 x20, .int .i64 x21, .bool x22, .int .i64 x23] ∧ (∃ (b_a30 : Option Addr) (b_n31 b_c32 : Nat) (w33 : World), (Builtin.append_ #[23, 23] 23 #[.slice x_a12 x_n13 x_c14, .slice (some p25) 1 1]).run Try.prog w26 = .ok (.slice b_a30 b_n31 b_c32) w33 ∧ w33.cell? (p10.add 1) = some (.slice x_a16 x_n17 x_c18) ∧ Cells w33 p8 0 [.int .i64 x20, .int .i64 x21, .bool x22, .int .i64 x23] ∧ New w33 43 [.int .i64 x20, .int .i64 x21, .bool x22, .int .i64 x23] (fun p37 w38 => w38.cell? p10 = some (.slice x_a12 x_n13 x_c14) ∧ w38.cell? (p10.add 1) = some (.slice x_a16 x_n17 x_c18) ∧ ∃ (b_a41 : Option Addr) (b_n42 b_c43 : Nat) (w44 : World), (Builtin.append_ #[22, 22] 22 #[.slice x_a16 x_n17 x_c18, .slice (some p37) 1 1]).run Try.prog w38 = .ok (.slice b_a41 b_n42 b_c43) w44 ∧ Put w44 p10 (.slice b_a30 b_n31 b_c32) (fun w46 => Put w46 (p10.add 1) (.slice b_a41 b_n42 b_c43) (fun w48 => k (.tuple #[]) w48)))) ∧ (New w26 43 [.int .i64 x20, .int .i64 x21, .bool x22, .int .i64 x23] (fun p50 w51 => w51.cell? p10 = some (.slice x_a12 x_n13 x_c14) ∧ w51.cell? (p10.add 1) = some (.slice x_a16 x_n17 x_c18) ∧ ∃ (b_a54 : Option Addr) (b_n55 b_c56 : Nat) (w57 : World), (Builtin.append_ #[23, 23] 23 #[.slice x_a12 x_n13 x_c14, .slice (some p25) 1 1]).run Try.prog w51 = .ok (.slice b_a54 b_n55 b_c56) w57 ∧ w57.cell? (p10.add 1) = some (.slice x_a16 x_n17 x_c18) ∧ Cells w57 p8 0 [.int .i64 x20, .int .i64 x21, .bool x22, .int .i64 x23] ∧ ∃ (b_a61 : Option Addr) (b_n62 b_c63 : Nat) (w64 : World), (Builtin.append_ #[22, 22] 22 #[.slice x_a16 x_n17 x_c18, .slice (some p50) 1 1]).run Try.prog w57 = .ok (.slice b_a61 b_n62 b_c63) w64 ∧ Put w64 p10 (.slice b_a54 b_n55 b_c56) (fun w66 => Put w66 (p10.add 1) (.slice b_a61 b_n62 b_c63) (fun w68 => k (.tuple #[]) w68)))))) ∧ (New w9.drew 43 [.int .i64 x20, .int .i64 x21, .bool x22, .int .i64 x23] (fun p71 w72 => w72.cell? p10 = some (.slice x_a12 x_n13 x_c14) ∧ w72.cell? (p10.add 1) = some (.slice x_a16 x_n17 x_c18) ∧ New w72 3 [.int .i64 id2] (fun p75 w76 => w76.cell? p10 = some (.slice x_a12 x_n13 x_c14) ∧ w76.cell? (p10.add 1) = some (.slice x_a16 x_n17 x_c18) ∧ Cells w76 p8 0 [.int .i64 x20, .int .i64 x21, .bool x22, .int .i64 x23] ∧ ∃ (b_a80 : Option Addr) (b_n81 b_c82 : Nat) (w83 : World), (Builtin.append_ #[23, 23] 23 #[.slice x_a12 x_n13 x_c14, .slice (some p75) 1 1]).run Try.prog w76 = .ok (.slice b_a80 b_n81 b_c82) w83 ∧ w83.cell? (p10.add 1) = some (.slice x_a16 x_n17 x_c18) ∧ Cells w83 p8 0 [.int .i64 x20, .int .i64 x21, .bool x22, .int .i64 x23] ∧ ∃ (b_a87 : Option Addr) (b_n88 b_c89 : Nat) (w90 : World), (Builtin.append_ #[22, 22] 22 #[.slice x_a16 x_n17 x_c18, .slice (some p71) 1 1]).run Try.prog w83 = .ok (.slice b_a87 b_n88 b_c89) w90 ∧ Put w90 p10 (.slice b_a80 b_n81 b_c82) (fun w92 => Put w92 (p10.add 1) (.slice b_a87 b_n88 b_c89) (fun w94 => k (.tuple #[]) w94))))))
set_option maxRecDepth 100000 in
set_option maxHeartbeats 2000000 in
theorem w35 (t1 : Option Addr) (id2 : Int) (v3 : Int) (v4 : Int) (v5 : Bool) (v6 : Int) (w7 : World) (k : Value → World → Prop) (h : F35 t1 id2 v3 v4 v5 v6 w7 k) : Does Try.prog 35 #[.pointer t1, .int .i64 id2, .agg #[.int .i64 v3, .int .i64 v4, .bool v5, .int .i64 v6]] w7 k := by
  refine enter 26 Try.func35 rfl rfl rfl ?_
  intro ρ hρ
  have e0 := hρ 0 _ rfl
  have e1 := hρ 1 _ rfl
  have e2 := hρ 2 _ rfl
  unfold F35 at h
  refine WC_seq ?_
  refine WC_region ?_
  have h := New.out h
  refine WL_val gd0 (o_box (v := .agg #[.int .i64 v3, .int .i64 v4, .bool v5, .int .i64 v6]) (cs := [.int .i64 v3, .int .i64 v4, .bool v5, .int .i64 v6]) (by exact e2) rfl) rfl ?_
  generalize hp8 : fresh w7 = p8 at h ⊢
  generalize hw9 : push w7 43 [.int .i64 v3, .int .i64 v4, .bool v5, .int .i64 v6] = w9 at h ⊢
  try dsimp only at h
  refine WL_nil ?_
  refine nrm ?_
  refine WC_draws [7, 8, 14, 15, 18, 21] (.look 0 (.look 1 (.look 2 (.look 3 (.look 4 (.look 5 (.look 6 (.look 9 (.look 10 (.look 11 (.look 12 (.look 13 (.fork 7 (.fork 8 (.act 14 (.act 15 (.look 16 (.look 17 (.act 18 (.look 19 (.look 20 (.act 21 .nil)))))))) 14 (.act 8 (.act 15 (.look 16 (.look 17 (.act 18 (.look 19 (.look 20 (.act 21 .nil))))))))) 14 (.act 7 (.act 8 (.act 15 (.look 16 (.look 17 (.act 18 (.look 19 (.look 20 (.act 21 .nil)))))))))))))))))))))) Try.mixed (by kernel_rfl) ?_
  refine WQ_val rfl gd0 (o_move (v := .pointer t1) (by exact e0)) rfl ?_
  refine WQ_val rfl gd0 (o_move (v := .pointer t1) (by exact e0)) rfl ?_
  refine WQ_val rfl gd0 (o_move (v := .pointer t1) (by exact e0)) rfl ?_
  obtain ⟨p10, q11, h⟩ := h
  refine WQ_val rfl gd0 (o_nilCheck (by exact (congrArg Value.pointer q11))) rfl ?_
  refine WQ_val rfl gd0 (o_fieldAddr0 Try.underlying62 rfl Try.sizeOf23 rfl rfl rfl) rfl ?_
  obtain ⟨x_a12, x_n13, x_c14, hc15, h⟩ := h
  refine WQ_look (fun w => w.cell? p10 = some (.slice x_a12 x_n13 x_c14)) rfl gd0 (fun w hc => (o_load Try.isAgg23 rfl hc)) hc15 rfl ?_
  refine WQ_val rfl gd0 (o_move (v := .int .i64 id2) (by exact e1)) rfl ?_
  refine WQ_val rfl gd0 (o_move (v := .pointer t1) (by exact e0)) rfl ?_
  refine WQ_val rfl gd0 (o_nilCheck (by exact (congrArg Value.pointer q11))) rfl ?_
  refine WQ_val rfl gd0 (o_fieldAddr 1 Try.underlying62 rfl Try.sizeOf22 rfl rfl rfl) rfl ?_
  obtain ⟨x_a16, x_n17, x_c18, hc19, h⟩ := h
  refine WQ_look (fun w => w.cell? (p10.add 1) = some (.slice x_a16 x_n17 x_c18)) rfl gd0 (fun w hc => (o_load Try.isAgg22 rfl hc)) hc19 rfl ?_
  obtain ⟨x20, x21, x22, x23, hc24, h⟩ := h
  refine WQ_look (fun w => Cells w p8 0 [.int .i64 x20, .int .i64 x21, .bool x22, .int .i64 x23]) rfl gd0 (fun w hc => (o_loadAgg (vs := [.int .i64 x20, .int .i64 x21, .bool x22, .int .i64 x23]) Try.isAgg43 Try.sizeOf43 rfl hc)) hc24 rfl ?_
  obtain ⟨h, hf96⟩ := h
  refine WQ_fork ?_ ?_
  · have h := New.out h
    obtain ⟨hh27, hh28, hh29, h⟩ := h
    refine WQ_act rfl gd0 (o_buildSlice (e := 3) (ps := [(0, .int .i64 id2)]) (cs := [.int .i64 id2]) (partCons rfl partNil) (fun w => by kernel_rfl)) rfl (by exact ⟨⟨⟨trivial, fun _ => hh27⟩, fun _ => hh28⟩, fun _ => hh29⟩) ?_
    generalize hp25 : fresh w9.drew = p25 at h ⊢
    generalize hw26 : push w9.drew 3 [.int .i64 id2] = w26 at h ⊢
    try dsimp only at h
    obtain ⟨h, hf70⟩ := h
    refine WQ_fork ?_ ?_
    · obtain ⟨b_a30, b_n31, b_c32, w33, r34, h⟩ := h
      obtain ⟨hh35, hh36, h⟩ := h
      refine WQ_act rfl gd0 (o_append rfl rfl r34) rfl (by exact ⟨⟨⟨trivial, depT (by kernel_rfl)⟩, fun _ => hh35⟩, fun _ => hh36⟩) ?_
      have h := New.out h
      obtain ⟨hh39, hh40, h⟩ := h
      refine WQ_act rfl gd0 (o_buildSlice (e := 43) (ps := [(0, .agg #[.int .i64 x20, .int .i64 x21, .bool x22, .int .i64 x23])]) (cs := [.int .i64 x20, .int .i64 x21, .bool x22, .int .i64 x23]) (partCons rfl partNil) (fun w => by kernel_rfl)) rfl (by exact ⟨⟨⟨trivial, fun _ => hh39⟩, fun _ => hh40⟩, depT (by kernel_rfl)⟩) ?_
      generalize hp37 : fresh w33 = p37 at h ⊢
      generalize hw38 : push w33 43 [.int .i64 x20, .int .i64 x21, .bool x22, .int .i64 x23] = w38 at h ⊢
      try dsimp only at h
      obtain ⟨b_a41, b_n42, b_c43, w44, r45, h⟩ := h
      refine WQ_act rfl gd0 (o_append rfl rfl r45) rfl (by exact ⟨⟨⟨trivial, depT (by kernel_rfl)⟩, depT (by kernel_rfl)⟩, depT (by kernel_rfl)⟩) ?_
      refine WQ_val rfl gd0 (o_nilCheck (by exact (congrArg Value.pointer q11))) rfl ?_
      refine WQ_val rfl gd0 (o_fieldAddr0 Try.underlying62 rfl Try.sizeOf23 rfl rfl rfl) rfl ?_
      obtain ⟨c47, h⟩ := h
      refine WQ_do rfl gd0 (o_store (v := .slice b_a30 b_n31 b_c32) Try.sizeOf23 rfl rfl rfl c47) (by exact ⟨⟨⟨trivial, depT (by kernel_rfl)⟩, depT (by kernel_rfl)⟩, depT (by kernel_rfl)⟩) ?_
      generalize hw46 : World.setCell w44 p10 (.slice b_a30 b_n31 b_c32) = w46 at h ⊢
      try dsimp only at h
      refine WQ_val rfl gd0 (o_nilCheck (by exact (congrArg Value.pointer q11))) rfl ?_
      refine WQ_val rfl gd0 (o_fieldAddr 1 Try.underlying62 rfl Try.sizeOf22 rfl rfl rfl) rfl ?_
      obtain ⟨c49, h⟩ := h
      refine WQ_do rfl gd0 (o_store (v := .slice b_a41 b_n42 b_c43) Try.sizeOf22 rfl rfl rfl c49) (by exact ⟨⟨⟨trivial, depT (by kernel_rfl)⟩, depT (by kernel_rfl)⟩, depT (by kernel_rfl)⟩) ?_
      generalize hw48 : World.setCell w46 (p10.add 1) (.slice b_a41 b_n42 b_c43) = w48 at h ⊢
      try dsimp only at h
      refine WQ_nil ?_
      refine ndE ?_
      exact gv0 rfl h
    · replace h := hf70
      have h := New.out h
      obtain ⟨hh52, hh53, h⟩ := h
      refine WQ_act rfl gd0 (o_buildSlice (e := 43) (ps := [(0, .agg #[.int .i64 x20, .int .i64 x21, .bool x22, .int .i64 x23])]) (cs := [.int .i64 x20, .int .i64 x21, .bool x22, .int .i64 x23]) (partCons rfl partNil) (fun w => by kernel_rfl)) rfl (by exact ⟨⟨⟨trivial, fun _ => hh52⟩, fun _ => hh53⟩, depT (by kernel_rfl)⟩) ?_
      generalize hp50 : fresh w26 = p50 at h ⊢
      generalize hw51 : push w26 43 [.int .i64 x20, .int .i64 x21, .bool x22, .int .i64 x23] = w51 at h ⊢
      try dsimp only at h
      obtain ⟨b_a54, b_n55, b_c56, w57, r58, h⟩ := h
      obtain ⟨hh59, hh60, h⟩ := h
      refine WQ_act rfl gd0 (o_append rfl rfl r58) rfl (by exact ⟨⟨⟨trivial, depT (by kernel_rfl)⟩, fun _ => hh59⟩, fun _ => hh60⟩) ?_
      obtain ⟨b_a61, b_n62, b_c63, w64, r65, h⟩ := h
      refine WQ_act rfl gd0 (o_append rfl rfl r65) rfl (by exact ⟨⟨⟨trivial, depT (by kernel_rfl)⟩, depT (by kernel_rfl)⟩, depT (by kernel_rfl)⟩) ?_
      refine WQ_val rfl gd0 (o_nilCheck (by exact (congrArg Value.pointer q11))) rfl ?_
      refine WQ_val rfl gd0 (o_fieldAddr0 Try.underlying62 rfl Try.sizeOf23 rfl rfl rfl) rfl ?_
      obtain ⟨c67, h⟩ := h
      refine WQ_do rfl gd0 (o_store (v := .slice b_a54 b_n55 b_c56) Try.sizeOf23 rfl rfl rfl c67) (by exact ⟨⟨⟨trivial, depT (by kernel_rfl)⟩, depT (by kernel_rfl)⟩, depT (by kernel_rfl)⟩) ?_
      generalize hw66 : World.setCell w64 p10 (.slice b_a54 b_n55 b_c56) = w66 at h ⊢
      try dsimp only at h
      refine WQ_val rfl gd0 (o_nilCheck (by exact (congrArg Value.pointer q11))) rfl ?_
      refine WQ_val rfl gd0 (o_fieldAddr 1 Try.underlying62 rfl Try.sizeOf22 rfl rfl rfl) rfl ?_
      obtain ⟨c69, h⟩ := h
      refine WQ_do rfl gd0 (o_store (v := .slice b_a61 b_n62 b_c63) Try.sizeOf22 rfl rfl rfl c69) (by exact ⟨⟨⟨trivial, depT (by kernel_rfl)⟩, depT (by kernel_rfl)⟩, depT (by kernel_rfl)⟩) ?_
      generalize hw68 : World.setCell w66 (p10.add 1) (.slice b_a61 b_n62 b_c63) = w68 at h ⊢
      try dsimp only at h
      refine WQ_nil ?_
      refine ndE ?_
      exact gv0 rfl h
  · replace h := hf96
    have h := New.out h
    obtain ⟨hh73, hh74, h⟩ := h
    refine WQ_act rfl gd0 (o_buildSlice (e := 43) (ps := [(0, .agg #[.int .i64 x20, .int .i64 x21, .bool x22, .int .i64 x23])]) (cs := [.int .i64 x20, .int .i64 x21, .bool x22, .int .i64 x23]) (partCons rfl partNil) (fun w => by kernel_rfl)) rfl (by exact ⟨⟨⟨trivial, fun _ => hh73⟩, fun _ => hh74⟩, depT (by kernel_rfl)⟩) ?_
    generalize hp71 : fresh w9.drew = p71 at h ⊢
    generalize hw72 : push w9.drew 43 [.int .i64 x20, .int .i64 x21, .bool x22, .int .i64 x23] = w72 at h ⊢
    try dsimp only at h
    have h := New.out h
    obtain ⟨hh77, hh78, hh79, h⟩ := h
    refine WQ_act rfl gd0 (o_buildSlice (e := 3) (ps := [(0, .int .i64 id2)]) (cs := [.int .i64 id2]) (partCons rfl partNil) (fun w => by kernel_rfl)) rfl (by exact ⟨⟨⟨trivial, fun _ => hh77⟩, fun _ => hh78⟩, fun _ => hh79⟩) ?_
    generalize hp75 : fresh w72 = p75 at h ⊢
    generalize hw76 : push w72 3 [.int .i64 id2] = w76 at h ⊢
    try dsimp only at h
    obtain ⟨b_a80, b_n81, b_c82, w83, r84, h⟩ := h
    obtain ⟨hh85, hh86, h⟩ := h
    refine WQ_act rfl gd0 (o_append rfl rfl r84) rfl (by exact ⟨⟨⟨trivial, depT (by kernel_rfl)⟩, fun _ => hh85⟩, fun _ => hh86⟩) ?_
    obtain ⟨b_a87, b_n88, b_c89, w90, r91, h⟩ := h
    refine WQ_act rfl gd0 (o_append rfl rfl r91) rfl (by exact ⟨⟨⟨trivial, depT (by kernel_rfl)⟩, depT (by kernel_rfl)⟩, depT (by kernel_rfl)⟩) ?_
    refine WQ_val rfl gd0 (o_nilCheck (by exact (congrArg Value.pointer q11))) rfl ?_
    refine WQ_val rfl gd0 (o_fieldAddr0 Try.underlying62 rfl Try.sizeOf23 rfl rfl rfl) rfl ?_
    obtain ⟨c93, h⟩ := h
    refine WQ_do rfl gd0 (o_store (v := .slice b_a80 b_n81 b_c82) Try.sizeOf23 rfl rfl rfl c93) (by exact ⟨⟨⟨trivial, depT (by kernel_rfl)⟩, depT (by kernel_rfl)⟩, depT (by kernel_rfl)⟩) ?_
    generalize hw92 : World.setCell w90 p10 (.slice b_a80 b_n81 b_c82) = w92 at h ⊢
    try dsimp only at h
    refine WQ_val rfl gd0 (o_nilCheck (by exact (congrArg Value.pointer q11))) rfl ?_
    refine WQ_val rfl gd0 (o_fieldAddr 1 Try.underlying62 rfl Try.sizeOf22 rfl rfl rfl) rfl ?_
    obtain ⟨c95, h⟩ := h
    refine WQ_do rfl gd0 (o_store (v := .slice b_a87 b_n88 b_c89) Try.sizeOf22 rfl rfl rfl c95) (by exact ⟨⟨⟨trivial, depT (by kernel_rfl)⟩, depT (by kernel_rfl)⟩, depT (by kernel_rfl)⟩) ?_
    generalize hw94 : World.setCell w92 (p10.add 1) (.slice b_a87 b_n88 b_c89) = w94 at h ⊢
    try dsimp only at h
    refine WQ_nil ?_
    refine ndE ?_
    exact gv0 rfl h

/-- spacecraft bits.NewWriter -/
def F36 (w1 : World) (k : Value → World → Prop) : Prop :=
  New w1 94 [.bool true, .slice none 0 0, .int .i64 0] (fun p2 w3 => k (.pointer (some p2)) w3)
set_option maxRecDepth 100000 in
set_option maxHeartbeats 2000000 in
theorem w36 (w1 : World) (k : Value → World → Prop) (h : F36 w1 k) : Does Try.prog 36 #[] w1 k := by
  refine enter 3 Try.func36 rfl rfl rfl ?_
  intro ρ hρ
  unfold F36 at h
  refine WC_seq ?_
  refine WC_region ?_
  refine WL_val gd0 ((o_assign (v := .pointer none) rfl) _) rfl ?_
  refine WL_nil ?_
  refine nrm ?_
  refine WC_seq ?_
  refine WC_region ?_
  refine WL_val gd0 ((o_build (ps := [(0, .bool true)]) (v := .agg #[.bool true, .slice none 0 0, .int .i64 0]) (partCons rfl partNil) (fun w => by kernel_rfl)) _) rfl ?_
  have h := New.out h
  refine WL_val gd0 (o_box (v := .agg #[.bool true, .slice none 0 0, .int .i64 0]) (cs := [.bool true, .slice none 0 0, .int .i64 0]) rfl rfl) rfl ?_
  generalize hp2 : fresh w1 = p2 at h ⊢
  generalize hw3 : push w1 94 [.bool true, .slice none 0 0, .int .i64 0] = w3 at h ⊢
  try dsimp only at h
  refine WL_val gd0 ((o_assign (v := .pointer (some p2)) rfl) _) rfl ?_
  refine WL_nil ?_
  refine nrm ?_
  refine WC_ret ?_
  refine rtE ?_
  exact gv1 rfl rfl h

def F37_j3 (width3 : Int) (t20 : Int) (w1 : Option Addr) (n2 : Int) (w30 : World) (nx21 : Int → World → Prop) : Prop :=
  (0 : Int) ≤ IntKind.i64.wrap ((IntKind.i64.wrap (width3 - 1)) - t20) ∧ ∃ (p32 : Addr), w1 = some p32 ∧ ∃ (x_a34 : Option Addr) (x_n35 x_c36 : Nat), w30.drew.cell? (p32.add 1) = some (.slice x_a34 x_n35 x_c36) ∧ ∃ (x38 : Int), w30.drew.cell? (p32.add 2) = some (.int .i64 x38) ∧ ∃ (p42 : Addr), x_a34 = some p42 ∧ (0 : Int) ≤ IntKind.i64.wrap (Int.tdiv x38 8) ∧ IntKind.i64.wrap (Int.tdiv x38 8) < (x_n35 : Int) ∧ ∃ (x44 : Int), w30.drew.cell? (p42.add ((IntKind.i64.wrap (Int.tdiv x38 8)).toNat)) = some (.int .u8 x44) ∧ ∃ (x46 : Int), w30.drew.cell? (p32.add 2) = some (.int .i64 x46) ∧ (0 : Int) ≤ IntKind.i64.wrap (7 - (Int.tmod x46 8)) ∧ (0 : Int) ≤ IntKind.i64.wrap (Int.tdiv x38 8) ∧ IntKind.i64.wrap (Int.tdiv x38 8) < (x_n35 : Int) ∧ Put w30.drew (p42.add ((IntKind.i64.wrap (Int.tdiv x38 8)).toNat)) (.int .u8 (bor .u8 x44 (shl .u8 (IntKind.u8.wrap (band .u64 (shr .u64 n2 (IntKind.i64.wrap ((IntKind.i64.wrap (width3 - 1)) - t20))) 1)) (IntKind.i64.wrap (7 - (Int.tmod x46 8)))))) (fun w51 => ∃ (x53 : Int), w51.cell? (p32.add 2) = some (.int .i64 x53) ∧ Put w51 (p32.add 2) (.int .i64 (IntKind.i64.wrap (x53 + 1))) (fun w55 => nx21 (IntKind.i64.wrap (t20 + 1)) w55))
def F37_b2 (width3 : Int) (w1 : Option Addr) (n2 : Int) (t20 : Int) (w21 : World) (nx21 : Int → World → Prop) (k : Value → World → Prop) : Prop :=
  if t20 < width3 then
  ∃ (p57 : Addr), w1 = some p57 ∧ ∃ (x59 : Int), w21.cell? (p57.add 2) = some (.int .i64 x59) ∧ if (Int.tmod x59 8) = 0 then
    ∃ (x_a62 : Option Addr) (x_n63 x_c64 : Nat), w21.cell? (p57.add 1) = some (.slice x_a62 x_n63 x_c64) ∧ New w21 5 [.int .u8 0] (fun p66 w67 => ∃ (b_a68 : Option Addr) (b_n69 b_c70 : Nat) (w71 : World), (Builtin.append_ #[24, 24] 24 #[.slice x_a62 x_n63 x_c64, .slice (some p66) 1 1]).run Try.prog w67 = .ok (.slice b_a68 b_n69 b_c70) w71 ∧ Put w71 (p57.add 1) (.slice b_a68 b_n69 b_c70) (fun w73 => F37_j3 width3 t20 w1 n2 w73 nx21))
  else
    F37_j3 width3 t20 w1 n2 w21 nx21
else
  k (.pointer w1) w21
def F37_j1 (w1 : Option Addr) (width3 : Int) (n2 : Int) (t12 : Bool) (w13 : World) (k : Value → World → Prop) : Prop :=
  if t12 = true then
  k (.pointer w1) w13
else
  LoopP (fun (s : Int) w' nx' => F37_b2 width3 w1 n2 s w' (fun x0 w => nx' x0 w) k) 0 w13
/-- (*spacecraft bits.Writer).Put -/
def F37 (w1 : Option Addr) (n2 : Int) (width3 : Int) (w4 : World) (k : Value → World → Prop) : Prop :=
  Does Try.prog 44 #[.pointer w1] w4 (fun v w5 => ∃ (x6 : Bool), v = .bool x6 ∧ if (!x6) = true then
  k (.pointer none) w5
else
  if width3 < 0 then
    F37_j1 w1 width3 n2 true w5 k
  else
    F37_j1 w1 width3 n2 (decide (64 < width3)) w5 k)
set_option maxRecDepth 100000 in
set_option maxHeartbeats 2000000 in
theorem w37 (w1 : Option Addr) (n2 : Int) (width3 : Int) (w4 : World) (k : Value → World → Prop) (h : F37 w1 n2 width3 w4 k) : Does Try.prog 37 #[.pointer w1, .int .u64 n2, .int .i64 width3] w4 k := by
  refine enter 76 Try.func37 rfl rfl rfl ?_
  intro ρ hρ
  have e0 := hρ 0 _ rfl
  have e1 := hρ 1 _ rfl
  have e2 := hρ 2 _ rfl
  unfold F37 at h
  refine WC_seq ?_
  refine WC_region ?_
  refine WL_val gd0 ((o_assign (v := .pointer none) rfl) _) rfl ?_
  refine WL_nil ?_
  refine nrm ?_
  refine WC_seq ?_
  refine WC_seq ?_
  refine WC_region ?_
  refine WL_val gd0 ((o_move (v := .pointer w1) (by exact e0)) _) rfl ?_
  refine WL_call gd0 (o_call Try.call44 (argCons rfl argNil) _) rfl (h.mono ?_)
  rintro _ w5 ⟨x6, rfl, h⟩
  refine WL_val gd0 ((o_not rfl) _) rfl ?_
  refine WL_nil ?_
  refine nrm ?_
  refine WC_cond (t := (!x6)) rfl (fun hb7 => ?_) (fun hb7 => ?_)
  · rw [if_pos hb7] at h
    refine WC_seq ?_
    refine WC_region ?_
    refine WL_val gd0 ((o_assign (v := .pointer none) rfl) _) rfl ?_
    refine WL_nil ?_
    refine nrm ?_
    refine WC_ret ?_
    refine rtT ?_
    refine rtE ?_
    exact gv1 rfl rfl h
  · rw [if_neg (neT hb7)] at h
    refine WC_skip ?_
    refine nrm ?_
    refine WC_seq ?_
    refine WC_cut (fun ρ w' => ∃ (t12 : Bool), ρ 17 = .bool t12 ∧ ρ 0 = .pointer w1 ∧ ρ 1 = .int .u64 n2 ∧ ρ 2 = .int .i64 width3 ∧ F37_j1 w1 width3 n2 t12 w' k) ?_ ?_
    · refine WC_region ?_
      refine WL_val gd0 ((o_move (v := .int .i64 width3) (by exact e2)) _) rfl ?_
      refine WL_val gd0 ((o_lss rfl rfl) _) rfl ?_
      refine WL_val gd0 ((o_move (v := .bool (decide (width3 < 0))) rfl) _) rfl ?_
      refine bsplit (decide (width3 < 0)) (fun hb75 => ?_) (fun hb75 => ?_)
      · rw [if_pos (of_decide_eq_true hb75)] at h
        refine WL_skip (gdN (b := (decide (width3 < 0))) 14 rfl rfl hb75) rfl ?_
        refine WL_skip (gdN (b := (decide (width3 < 0))) 14 rfl rfl hb75) rfl ?_
        refine WL_val gd0 ((o_pickT (v := .bool true) rfl hb75 rfl) _) rfl ?_
        refine WL_nil ?_
        refine nrm ?_
        exact ⟨_, rfl, e0, e1, e2, h⟩
      · rw [if_neg (of_decide_eq_false hb75)] at h
        refine WL_val (gdY (b := (decide (width3 < 0))) 14 rfl rfl hb75) ((o_move (v := .int .i64 width3) (by exact e2)) _) rfl ?_
        refine WL_val (gdY (b := (decide (width3 < 0))) 14 rfl rfl hb75) ((o_gtr rfl rfl) _) rfl ?_
        refine WL_val gd0 ((o_pickF (v := .bool (decide (64 < width3))) rfl hb75 rfl) _) rfl ?_
        refine WL_nil ?_
        refine nrm ?_
        exact ⟨_, rfl, e0, e1, e2, h⟩
    · rintro ρ w13 ⟨t12, e17_11, e0_8, e1_9, e2_10, h⟩
      unfold F37_j1 at h
      refine WC_cond (t := t12) (by exact e17_11) (fun hb14 => ?_) (fun hb14 => ?_)
      · rw [if_pos hb14] at h
        refine WC_seq ?_
        refine WC_region ?_
        refine WL_val gd0 ((o_move (v := .pointer w1) (by exact e0_8)) _) rfl ?_
        refine WL_val gd0 ((o_assign (v := .pointer w1) rfl) _) rfl ?_
        refine WL_nil ?_
        refine nrm ?_
        refine WC_ret ?_
        refine rtT ?_
        refine rtE ?_
        exact gv1 rfl rfl h
      · rw [if_neg (neT hb14)] at h
        refine WC_skip ?_
        refine nrm ?_
        refine WC_seq ?_
        refine WC_seq ?_
        refine WC_region ?_
        refine WL_val gd0 ((o_move (v := .int .i64 width3) (by exact e2_10)) _) rfl ?_
        refine WL_val gd0 ((o_move (v := .int .i64 0) rfl) _) rfl ?_
        refine WL_nil ?_
        refine nrm ?_
        refine WC_block ?_
        obtain ⟨J21, ⟨n21, h0⟩, hr21⟩ := h
        refine WC_loop (fun n ρ w' => ∃ (t20 : Int), ρ 20 = .int .i64 t20 ∧ ρ 0 = .pointer w1 ∧ ρ 1 = .int .u64 n2 ∧ ρ 2 = .int .i64 width3 ∧ ρ 19 = .int .i64 width3 ∧ J21 n t20 w') ⟨n21, _, rfl, e0_8, e1_9, e2_10, rfl, h0⟩ ?_
        rintro n21 ρ w21 ⟨t20, e20_19, e0_15, e1_16, e2_17, e19_18, h⟩
        have h : F37_b2 width3 w1 n2 t20 w21 (fun x0 w => ∃ m, m < n21 ∧ J21 m x0 w) k := hr21 n21 t20 w21 h
        unfold F37_b2 at h
        refine WC_seq ?_
        refine WC_region ?_
        refine WL_val gd0 ((o_lss (by exact e20_19) (by exact e19_18)) _) rfl ?_
        refine WL_nil ?_
        refine nrm ?_
        refine WC_seq ?_
        refine WC_cond (t := (decide (t20 < width3))) rfl (fun hb23 => ?_) (fun hb23 => ?_)
        · rw [if_pos (of_decide_eq_true hb23)] at h
          refine WC_skip ?_
          refine nrm ?_
          refine WC_seq ?_
          refine WC_block ?_
          refine WC_seq ?_
          refine WC_region ?_
          refine WL_val gd0 ((o_move (v := .int .i64 t20) (by exact e20_19)) _) rfl ?_
          refine WL_val gd0 ((o_assign (v := .int .i64 t20) rfl) _) rfl ?_
          refine WL_nil ?_
          refine nrm ?_
          refine WC_cut (fun ρ w' => ρ 0 = .pointer w1 ∧ ρ 1 = .int .u64 n2 ∧ ρ 2 = .int .i64 width3 ∧ ρ 7 = .int .i64 t20 ∧ ρ 19 = .int .i64 width3 ∧ ρ 20 = .int .i64 t20 ∧ F37_j3 width3 t20 w1 n2 w' (fun x0 w => ∃ m, m < n21 ∧ J21 m x0 w)) ?_ ?_
          · refine WC_seq ?_
            refine WC_region ?_
            refine WL_val gd0 ((o_move (v := .pointer w1) (by exact e0_15)) _) rfl ?_
            obtain ⟨p57, q58, h⟩ := h
            refine WL_val gd0 ((o_nilCheck (by exact (congrArg Value.pointer q58))) _) rfl ?_
            refine WL_val gd0 ((o_fieldAddr 2 Try.underlying94 rfl Try.sizeOf3 rfl rfl rfl) _) rfl ?_
            obtain ⟨x59, hc60, h⟩ := h
            refine WL_val gd0 (o_load Try.isAgg3 rfl hc60) rfl ?_
            refine WL_val gd0 ((fun w => o_rem rfl rfl w (by decide)) _) rfl ?_
            refine WL_val gd0 ((o_eql rfl rfl) _) rfl ?_
            refine WL_nil ?_
            refine nrm ?_
            refine WC_cond (t := (decide ((Int.tmod x59 8) = 0))) rfl (fun hb61 => ?_) (fun hb61 => ?_)
            · rw [if_pos (of_decide_eq_true hb61)] at h
              refine WC_region ?_
              refine WL_val gd0 ((o_move (v := .pointer w1) (by exact e0_15)) _) rfl ?_
              refine WL_val gd0 ((o_move (v := .pointer w1) (by exact e0_15)) _) rfl ?_
              refine WL_val gd0 ((o_nilCheck (by exact (congrArg Value.pointer q58))) _) rfl ?_
              refine WL_val gd0 ((o_fieldAddr 1 Try.underlying94 rfl Try.sizeOf24 rfl rfl rfl) _) rfl ?_
              obtain ⟨x_a62, x_n63, x_c64, hc65, h⟩ := h
              refine WL_val gd0 (o_load Try.isAgg24 rfl hc65) rfl ?_
              have h := New.out h
              refine WL_val gd0 (o_buildSlice (e := 5) (ps := [(0, .int .u8 0)]) (cs := [.int .u8 0]) (partCons rfl partNil) (fun w => by kernel_rfl)) rfl ?_
              generalize hp66 : fresh w21 = p66 at h ⊢
              generalize hw67 : push w21 5 [.int .u8 0] = w67 at h ⊢
              try dsimp only at h
              obtain ⟨b_a68, b_n69, b_c70, w71, r72, h⟩ := h
              refine WL_val gd0 (o_append rfl rfl r72) rfl ?_
              refine WL_val gd0 ((o_nilCheck (by exact (congrArg Value.pointer q58))) _) rfl ?_
              refine WL_val gd0 ((o_fieldAddr 1 Try.underlying94 rfl Try.sizeOf24 rfl rfl rfl) _) rfl ?_
              obtain ⟨c74, h⟩ := h
              refine WL_act gd0 (o_store (v := .slice b_a68 b_n69 b_c70) Try.sizeOf24 rfl rfl rfl c74) ?_
              generalize hw73 : World.setCell w71 (p57.add 1) (.slice b_a68 b_n69 b_c70) = w73 at h ⊢
              try dsimp only at h
              refine WL_nil ?_
              refine nrm ?_
              exact ⟨e0_15, e1_16, e2_17, rfl, e19_18, e20_19, h⟩
            · rw [if_neg (of_decide_eq_false hb61)] at h
              refine WC_skip ?_
              refine nrm ?_
              exact ⟨e0_15, e1_16, e2_17, rfl, e19_18, e20_19, h⟩
          · rintro ρ w30 ⟨e0_24, e1_25, e2_26, e7_27, e19_28, e20_29, h⟩
            unfold F37_j3 at h
            refine WC_seq ?_
            refine WC_region ?_
            refine WL_val gd0 ((o_move (v := .int .u64 n2) (by exact e1_25)) _) rfl ?_
            refine WL_val gd0 ((o_move (v := .int .i64 width3) (by exact e2_26)) _) rfl ?_
            refine WL_val gd0 ((o_sub rfl rfl) _) rfl ?_
            refine WL_val gd0 ((o_move (v := .int .i64 t20) (by exact e7_27)) _) rfl ?_
            refine WL_val gd0 ((o_sub rfl rfl) _) rfl ?_
            obtain ⟨c31, h⟩ := h
            refine WL_val gd0 ((o_shr rfl rfl c31) _) rfl ?_
            refine WL_val gd0 ((o_and rfl rfl) _) rfl ?_
            refine WL_val gd0 ((o_conv Try.underlying72 Try.underlying5 rfl) _) rfl ?_
            refine WL_val gd0 ((o_assign (v := .int .u8 (IntKind.u8.wrap (band .u64 (shr .u64 n2 (IntKind.i64.wrap ((IntKind.i64.wrap (width3 - 1)) - t20))) 1))) rfl) _) rfl ?_
            refine WL_nil ?_
            refine nrm ?_
            refine WC_seq ?_
            refine WC_draws [21] (.look 0 (.look 1 (.look 2 (.look 3 (.look 4 (.look 5 (.look 6 (.look 7 (.look 8 (.look 9 (.look 10 (.look 11 (.look 12 (.look 13 (.look 14 (.look 15 (.look 16 (.look 17 (.look 18 (.look 19 (.look 20 (.act 21 .nil)))))))))))))))))))))) Try.mixed (by kernel_rfl) ?_
            refine WQ_val rfl gd0 (o_move (v := .pointer w1) (by exact e0_24)) rfl ?_
            obtain ⟨p32, q33, h⟩ := h
            refine WQ_val rfl gd0 (o_nilCheck (by exact (congrArg Value.pointer q33))) rfl ?_
            refine WQ_val rfl gd0 (o_fieldAddr 1 Try.underlying94 rfl Try.sizeOf24 rfl rfl rfl) rfl ?_
            obtain ⟨x_a34, x_n35, x_c36, hc37, h⟩ := h
            refine WQ_look (fun w => w.cell? (p32.add 1) = some (.slice x_a34 x_n35 x_c36)) rfl gd0 (fun w hc => (o_load Try.isAgg24 rfl hc)) hc37 rfl ?_
            refine WQ_val rfl gd0 (o_move (v := .pointer w1) (by exact e0_24)) rfl ?_
            refine WQ_val rfl gd0 (o_nilCheck (by exact (congrArg Value.pointer q33))) rfl ?_
            refine WQ_val rfl gd0 (o_fieldAddr 2 Try.underlying94 rfl Try.sizeOf3 rfl rfl rfl) rfl ?_
            obtain ⟨x38, hc39, h⟩ := h
            refine WQ_look (fun w => w.cell? (p32.add 2) = some (.int .i64 x38)) rfl gd0 (fun w hc => (o_load Try.isAgg3 rfl hc)) hc39 rfl ?_
            refine WQ_val rfl gd0 (fun w => o_quo rfl rfl w (by decide)) rfl ?_
            obtain ⟨p42, q43, h⟩ := h
            obtain ⟨l40, u41, h⟩ := h
            refine WQ_val rfl gd0 (o_indexAddr1 Try.underlying24 Try.sizeOf5 (by exact (congrArg (fun z => Value.slice z x_n35 x_c36) q43)) rfl l40 u41) rfl ?_
            obtain ⟨x44, hc45, h⟩ := h
            refine WQ_look (fun w => w.cell? (p42.add ((IntKind.i64.wrap (Int.tdiv x38 8)).toNat)) = some (.int .u8 x44)) rfl gd0 (fun w hc => (o_load Try.isAgg5 rfl hc)) hc45 rfl ?_
            refine WQ_val rfl gd0 (o_move (v := .int .u8 (IntKind.u8.wrap (band .u64 (shr .u64 n2 (IntKind.i64.wrap ((IntKind.i64.wrap (width3 - 1)) - t20))) 1))) rfl) rfl ?_
            refine WQ_val rfl gd0 (o_move (v := .pointer w1) (by exact e0_24)) rfl ?_
            refine WQ_val rfl gd0 (o_nilCheck (by exact (congrArg Value.pointer q33))) rfl ?_
            refine WQ_val rfl gd0 (o_fieldAddr 2 Try.underlying94 rfl Try.sizeOf3 rfl rfl rfl) rfl ?_
            obtain ⟨x46, hc47, h⟩ := h
            refine WQ_look (fun w => w.cell? (p32.add 2) = some (.int .i64 x46)) rfl gd0 (fun w hc => (o_load Try.isAgg3 rfl hc)) hc47 rfl ?_
            refine WQ_val rfl gd0 (fun w => o_rem rfl rfl w (by decide)) rfl ?_
            refine WQ_val rfl gd0 (o_sub rfl rfl) rfl ?_
            obtain ⟨c48, h⟩ := h
            refine WQ_val rfl gd0 (o_shl rfl rfl c48) rfl ?_
            refine WQ_val rfl gd0 (o_or rfl rfl) rfl ?_
            obtain ⟨l49, u50, h⟩ := h
            refine WQ_val rfl gd0 (o_indexAddr1 Try.underlying24 Try.sizeOf5 (by exact (congrArg (fun z => Value.slice z x_n35 x_c36) q43)) rfl l49 u50) rfl ?_
            obtain ⟨c52, h⟩ := h
            refine WQ_do rfl gd0 (o_store (v := .int .u8 (bor .u8 x44 (shl .u8 (IntKind.u8.wrap (band .u64 (shr .u64 n2 (IntKind.i64.wrap ((IntKind.i64.wrap (width3 - 1)) - t20))) 1)) (IntKind.i64.wrap (7 - (Int.tmod x46 8)))))) Try.sizeOf5 rfl rfl rfl c52) (by exact ⟨⟨⟨⟨trivial, depT (by kernel_rfl)⟩, depT (by kernel_rfl)⟩, depT (by kernel_rfl)⟩, depT (by kernel_rfl)⟩) ?_
            generalize hw51 : World.setCell w30.drew (p42.add ((IntKind.i64.wrap (Int.tdiv x38 8)).toNat)) (.int .u8 (bor .u8 x44 (shl .u8 (IntKind.u8.wrap (band .u64 (shr .u64 n2 (IntKind.i64.wrap ((IntKind.i64.wrap (width3 - 1)) - t20))) 1)) (IntKind.i64.wrap (7 - (Int.tmod x46 8)))))) = w51 at h ⊢
            try dsimp only at h
            refine WQ_nil ?_
            refine nrm ?_
            refine WC_region ?_
            refine WL_val gd0 ((o_move (v := .pointer w1) (by exact e0_24)) _) rfl ?_
            refine WL_val gd0 ((o_nilCheck (by exact (congrArg Value.pointer q33))) _) rfl ?_
            refine WL_val gd0 ((o_fieldAddr 2 Try.underlying94 rfl Try.sizeOf3 rfl rfl rfl) _) rfl ?_
            obtain ⟨x53, hc54, h⟩ := h
            refine WL_val gd0 (o_load Try.isAgg3 rfl hc54) rfl ?_
            refine WL_val gd0 ((o_add rfl rfl) _) rfl ?_
            refine WL_val gd0 ((o_nilCheck (by exact (congrArg Value.pointer q33))) _) rfl ?_
            refine WL_val gd0 ((o_fieldAddr 2 Try.underlying94 rfl Try.sizeOf3 rfl rfl rfl) _) rfl ?_
            obtain ⟨c56, h⟩ := h
            refine WL_act gd0 (o_store (v := .int .i64 (IntKind.i64.wrap (x53 + 1))) Try.sizeOf3 rfl rfl rfl c56) ?_
            generalize hw55 : World.setCell w51 (p32.add 2) (.int .i64 (IntKind.i64.wrap (x53 + 1))) = w55 at h ⊢
            try dsimp only at h
            refine WL_nil ?_
            refine nrmB ?_
            refine nrm ?_
            refine WC_region ?_
            refine WL_val gd0 ((o_add (by exact e20_29) rfl) _) rfl ?_
            refine WL_val gd0 ((o_move (v := .int .i64 (IntKind.i64.wrap (t20 + 1))) rfl) _) rfl ?_
            refine WL_nil ?_
            refine nrm ?_
            obtain ⟨m22, hm22, h⟩ := h
            exact ⟨m22, hm22, _, rfl, e0_24, e1_25, e2_26, e19_28, h⟩
        · rw [if_neg (of_decide_eq_false hb23)] at h
          refine WC_exit ?_
          refine exT ?_
          refine exT ?_
          refine exB ?_
          refine nrm ?_
          refine WC_seq ?_
          refine WC_region ?_
          refine WL_val gd0 ((o_move (v := .pointer w1) (by exact e0_15)) _) rfl ?_
          refine WL_val gd0 ((o_assign (v := .pointer w1) rfl) _) rfl ?_
          refine WL_nil ?_
          refine nrm ?_
          refine WC_ret ?_
          refine rtE ?_
          exact gv1 rfl rfl h

/-- (*spacecraft bits.Writer).Bytes -/
def F38 (w1 : Option Addr) (w2 : World) (k : Value → World → Prop) : Prop :=
  Does Try.prog 44 #[.pointer w1] w2 (fun v w3 => ∃ (x4 : Bool), v = .bool x4 ∧ if (!x4) = true then
  k (.slice none 0 0) w3
else
  New w3 5 [] (fun p6 w7 => ∃ (p8 : Addr), w1 = some p8 ∧ ∃ (x_a10 : Option Addr) (x_n11 x_c12 : Nat), w7.cell? (p8.add 1) = some (.slice x_a10 x_n11 x_c12) ∧ ∃ (b_a14 : Option Addr) (b_n15 b_c16 : Nat) (w17 : World), (Builtin.append_ #[24, 24] 24 #[.slice (some p6) 0 0, .slice x_a10 x_n11 x_c12]).run Try.prog w7 = .ok (.slice b_a14 b_n15 b_c16) w17 ∧ k (.slice b_a14 b_n15 b_c16) w17))
set_option maxRecDepth 100000 in
set_option maxHeartbeats 2000000 in
theorem w38 (w1 : Option Addr) (w2 : World) (k : Value → World → Prop) (h : F38 w1 w2 k) : Does Try.prog 38 #[.pointer w1] w2 k := by
  refine enter 12 Try.func38 rfl rfl rfl ?_
  intro ρ hρ
  have e0 := hρ 0 _ rfl
  unfold F38 at h
  refine WC_seq ?_
  refine WC_region ?_
  refine WL_val gd0 ((o_assign (v := .slice none 0 0) rfl) _) rfl ?_
  refine WL_nil ?_
  refine nrm ?_
  refine WC_seq ?_
  refine WC_seq ?_
  refine WC_region ?_
  refine WL_val gd0 ((o_move (v := .pointer w1) (by exact e0)) _) rfl ?_
  refine WL_call gd0 (o_call Try.call44 (argCons rfl argNil) _) rfl (h.mono ?_)
  rintro _ w3 ⟨x4, rfl, h⟩
  refine WL_val gd0 ((o_not rfl) _) rfl ?_
  refine WL_nil ?_
  refine nrm ?_
  refine WC_cond (t := (!x4)) rfl (fun hb5 => ?_) (fun hb5 => ?_)
  · rw [if_pos hb5] at h
    refine WC_seq ?_
    refine WC_region ?_
    refine WL_val gd0 ((o_assign (v := .slice none 0 0) rfl) _) rfl ?_
    refine WL_nil ?_
    refine nrm ?_
    refine WC_ret ?_
    refine rtT ?_
    refine rtE ?_
    exact gv1 rfl rfl h
  · rw [if_neg (neT hb5)] at h
    refine WC_skip ?_
    refine nrm ?_
    refine WC_seq ?_
    refine WC_region ?_
    have h := New.out h
    refine WL_val gd0 (o_buildSlice (e := 5) (ps := []) (cs := []) partNil (fun w => by kernel_rfl)) rfl ?_
    generalize hp6 : fresh w3 = p6 at h ⊢
    generalize hw7 : push w3 5 [] = w7 at h ⊢
    try dsimp only at h
    refine WL_val gd0 ((o_move (v := .pointer w1) (by exact e0)) _) rfl ?_
    obtain ⟨p8, q9, h⟩ := h
    refine WL_val gd0 ((o_nilCheck (by exact (congrArg Value.pointer q9))) _) rfl ?_
    refine WL_val gd0 ((o_fieldAddr 1 Try.underlying94 rfl Try.sizeOf24 rfl rfl rfl) _) rfl ?_
    obtain ⟨x_a10, x_n11, x_c12, hc13, h⟩ := h
    refine WL_val gd0 (o_load Try.isAgg24 rfl hc13) rfl ?_
    obtain ⟨b_a14, b_n15, b_c16, w17, r18, h⟩ := h
    refine WL_val gd0 (o_append rfl rfl r18) rfl ?_
    refine WL_val gd0 ((o_assign (v := .slice b_a14 b_n15 b_c16) rfl) _) rfl ?_
    refine WL_nil ?_
    refine nrm ?_
    refine WC_ret ?_
    refine rtE ?_
    exact gv1 rfl rfl h

/-- (*spacecraft params.Pool).def -/
def F39 (p1 : Option Addr) (id2 : Int) (w3 : World) (k : Value → World → Prop) : Prop :=
  Does Try.prog 40 #[.pointer p1] w3 (fun v w4 => ∃ (x5 : Bool), v = .bool x5 ∧ if (!x5) = true then
  k (.tuple #[.pointer none, .int .i64 2]) w4
else
  ∃ (p7 : Addr), p1 = some p7 ∧ Does Try.prog 45 #[.pointer (some (p7.add 1)), .int .i64 id2] w4 (fun v w9 => ∃ (r10 : Int) (r11 : Bool), v = .tuple #[.int .i64 r10, .bool r11] ∧ if (!r11) = true then
    k (.tuple #[.pointer none, .int .i64 8]) w9
  else
    ∃ (x_a13 : Option Addr) (x_n14 x_c15 : Nat), w9.cell? ((p7.add 1).add 1) = some (.slice x_a13 x_n14 x_c15) ∧ ∃ (p19 : Addr), x_a13 = some p19 ∧ (0 : Int) ≤ r10 ∧ r10 < (x_n14 : Int) ∧ k (.tuple #[.pointer (some (p19.add (r10.toNat * 4))), .int .i64 0]) w9))
set_option maxRecDepth 100000 in
set_option maxHeartbeats 2000000 in
theorem w39 (p1 : Option Addr) (id2 : Int) (w3 : World) (k : Value → World → Prop) (h : F39 p1 id2 w3 k) : Does Try.prog 39 #[.pointer p1, .int .i64 id2] w3 k := by
  refine enter 28 Try.func39 rfl rfl rfl ?_
  intro ρ hρ
  have e0 := hρ 0 _ rfl
  have e1 := hρ 1 _ rfl
  unfold F39 at h
  refine WC_seq ?_
  refine WC_region ?_
  refine WL_val gd0 ((o_assign (v := .pointer none) rfl) _) rfl ?_
  refine WL_val gd0 ((o_assign (v := .int .i64 0) rfl) _) rfl ?_
  refine WL_nil ?_
  refine nrm ?_
  refine WC_seq ?_
  refine WC_seq ?_
  refine WC_region ?_
  refine WL_val gd0 ((o_move (v := .pointer p1) (by exact e0)) _) rfl ?_
  refine WL_call gd0 (o_call Try.call40 (argCons rfl argNil) _) rfl (h.mono ?_)
  rintro _ w4 ⟨x5, rfl, h⟩
  refine WL_val gd0 ((o_not rfl) _) rfl ?_
  refine WL_nil ?_
  refine nrm ?_
  refine WC_cond (t := (!x5)) rfl (fun hb6 => ?_) (fun hb6 => ?_)
  · rw [if_pos hb6] at h
    refine WC_seq ?_
    refine WC_region ?_
    refine WL_val gd0 ((o_assign (v := .pointer none) rfl) _) rfl ?_
    refine WL_val gd0 ((o_assign (v := .int .i64 2) rfl) _) rfl ?_
    refine WL_nil ?_
    refine nrm ?_
    refine WC_ret ?_
    refine rtT ?_
    refine rtE ?_
    exact gv2 rfl rfl rfl h
  · rw [if_neg (neT hb6)] at h
    refine WC_skip ?_
    refine nrm ?_
    refine WC_seq ?_
    refine WC_region ?_
    refine WL_val gd0 ((o_move (v := .pointer p1) (by exact e0)) _) rfl ?_
    obtain ⟨p7, q8, h⟩ := h
    refine WL_val gd0 ((o_nilCheck (by exact (congrArg Value.pointer q8))) _) rfl ?_
    refine WL_val gd0 ((o_fieldAddr 1 Try.underlying64 rfl Try.sizeOf62 rfl rfl rfl) _) rfl ?_
    refine WL_val gd0 ((o_move (v := .int .i64 id2) (by exact e1)) _) rfl ?_
    refine WL_call gd0 (o_call Try.call45 (argCons rfl (argCons rfl argNil)) _) rfl (h.mono ?_)
    rintro _ w9 ⟨r10, r11, rfl, h⟩
    refine WL_val gd0 ((o_move (v := .tuple #[.int .i64 r10, .bool r11]) rfl) _) rfl ?_
    refine WL_val gd0 ((o_extract (vs := [.int .i64 r10, .bool r11]) (r := .int .i64 r10) rfl rfl) _) rfl ?_
    refine WL_val gd0 ((o_extract (vs := [.int .i64 r10, .bool r11]) (r := .bool r11) rfl rfl) _) rfl ?_
    refine WL_val gd0 ((o_assign (v := .int .i64 r10) rfl) _) rfl ?_
    refine WL_val gd0 ((o_assign (v := .bool r11) rfl) _) rfl ?_
    refine WL_nil ?_
    refine nrm ?_
    refine WC_seq ?_
    refine WC_seq ?_
    refine WC_region ?_
    refine WL_val gd0 ((o_move (v := .bool r11) rfl) _) rfl ?_
    refine WL_val gd0 ((o_not rfl) _) rfl ?_
    refine WL_nil ?_
    refine nrm ?_
    refine WC_cond (t := (!r11)) rfl (fun hb12 => ?_) (fun hb12 => ?_)
    · rw [if_pos hb12] at h
      refine WC_seq ?_
      refine WC_region ?_
      refine WL_val gd0 ((o_assign (v := .pointer none) rfl) _) rfl ?_
      refine WL_val gd0 ((o_assign (v := .int .i64 8) rfl) _) rfl ?_
      refine WL_nil ?_
      refine nrm ?_
      refine WC_ret ?_
      refine rtT ?_
      refine rtE ?_
      exact gv2 rfl rfl rfl h
    · rw [if_neg (neT hb12)] at h
      refine WC_skip ?_
      refine nrm ?_
      refine WC_seq ?_
      refine WC_region ?_
      refine WL_val gd0 ((o_move (v := .pointer p1) (by exact e0)) _) rfl ?_
      refine WL_val gd0 ((o_nilCheck (by exact (congrArg Value.pointer q8))) _) rfl ?_
      refine WL_val gd0 ((o_fieldAddr 1 Try.underlying64 rfl Try.sizeOf62 rfl rfl rfl) _) rfl ?_
      refine WL_val gd0 ((o_fieldAddr 1 Try.underlying62 rfl Try.sizeOf22 rfl rfl rfl) _) rfl ?_
      obtain ⟨x_a13, x_n14, x_c15, hc16, h⟩ := h
      refine WL_val gd0 (o_load Try.isAgg22 rfl hc16) rfl ?_
      refine WL_val gd0 ((o_move (v := .int .i64 r10) rfl) _) rfl ?_
      obtain ⟨p19, q20, h⟩ := h
      obtain ⟨l17, u18, h⟩ := h
      refine WL_val gd0 ((o_indexAddr Try.underlying22 Try.sizeOf43 (by exact (congrArg (fun z => Value.slice z x_n14 x_c15) q20)) rfl l17 u18) _) rfl ?_
      refine WL_val gd0 ((o_assign (v := .pointer (some (p19.add (r10.toNat * 4)))) rfl) _) rfl ?_
      refine WL_val gd0 ((o_assign (v := .int .i64 0) rfl) _) rfl ?_
      refine WL_nil ?_
      refine nrm ?_
      refine WC_ret ?_
      refine rtE ?_
      exact gv2 rfl rfl rfl h

/-- (*spacecraft params.Pool).usable -/
def F40 (p1 : Option Addr) (w2 : World) (k : Value → World → Prop) : Prop :=
  if (!(p1).isNone) = true then
  ∃ (p4 : Addr), p1 = some p4 ∧ ∃ (x6 : Bool), w2.cell? p4 = some (.bool x6) ∧ k (.bool x6) w2
else
  k (.bool false) w2
set_option maxRecDepth 100000 in
set_option maxHeartbeats 2000000 in
theorem w40 (p1 : Option Addr) (w2 : World) (k : Value → World → Prop) (h : F40 p1 w2 k) : Does Try.prog 40 #[.pointer p1] w2 k := by
  refine enter 11 Try.func40 rfl rfl rfl ?_
  intro ρ hρ
  have e0 := hρ 0 _ rfl
  unfold F40 at h
  refine WC_seq ?_
  refine WC_region ?_
  refine WL_val gd0 ((o_assign (v := .bool false) rfl) _) rfl ?_
  refine WL_nil ?_
  refine nrm ?_
  refine WC_seq ?_
  refine WC_region ?_
  refine WL_val gd0 ((o_move (v := .pointer p1) (by exact e0)) _) rfl ?_
  refine WL_val gd0 ((o_neqPtrNil Try.underlying32 rfl rfl) _) rfl ?_
  refine WL_val gd0 ((o_move (v := .bool (!(p1).isNone)) rfl) _) rfl ?_
  refine bsplit (!(p1).isNone) (fun hb3 => ?_) (fun hb3 => ?_)
  · rw [if_pos hb3] at h
    refine WL_val (gdY (b := (!(p1).isNone)) 5 rfl rfl hb3) ((o_move (v := .pointer p1) (by exact e0)) _) rfl ?_
    obtain ⟨p4, q5, h⟩ := h
    refine WL_val (gdY (b := (!(p1).isNone)) 5 rfl rfl hb3) ((o_nilCheck (by exact (congrArg Value.pointer q5))) _) rfl ?_
    refine WL_val (gdY (b := (!(p1).isNone)) 5 rfl rfl hb3) ((o_fieldAddr0 Try.underlying64 rfl Try.sizeOf4 rfl rfl rfl) _) rfl ?_
    obtain ⟨x6, hc7, h⟩ := h
    refine WL_val (gdY (b := (!(p1).isNone)) 5 rfl rfl hb3) (o_load Try.isAgg4 rfl hc7) rfl ?_
    refine WL_val gd0 ((o_pickT (v := .bool x6) rfl hb3 rfl) _) rfl ?_
    refine WL_val gd0 ((o_assign (v := .bool x6) rfl) _) rfl ?_
    refine WL_nil ?_
    refine nrm ?_
    refine WC_ret ?_
    refine rtE ?_
    exact gv1 rfl rfl h
  · rw [if_neg (neT hb3)] at h
    refine WL_skip (gdN (b := (!(p1).isNone)) 5 rfl rfl hb3) rfl ?_
    refine WL_skip (gdN (b := (!(p1).isNone)) 5 rfl rfl hb3) rfl ?_
    refine WL_skip (gdN (b := (!(p1).isNone)) 5 rfl rfl hb3) rfl ?_
    refine WL_skip (gdN (b := (!(p1).isNone)) 5 rfl rfl hb3) rfl ?_
    refine WL_val gd0 ((o_pickF (v := .bool false) rfl hb3 rfl) _) rfl ?_
    refine WL_val gd0 ((o_assign (v := .bool false) rfl) _) rfl ?_
    refine WL_nil ?_
    refine nrm ?_
    refine WC_ret ?_
    refine rtE ?_
    exact gv1 rfl rfl h

/-- spacecraft spacecraftref33.inRange -/
def F41 (d1 : Int) (d2 : Int) (d3 : Bool) (d4 : Int) (v5 : Int) (w6 : World) (k : Value → World → Prop) : Prop :=
  New w6 43 [.int .i64 d1, .int .i64 d2, .bool d3, .int .i64 d4] (fun p7 w8 => ∃ (x9 : Bool), w8.cell? (p7.add 2) = some (.bool x9) ∧ if x9 = true then
  ∃ (x12 : Int), w8.cell? (p7.add 1) = some (.int .i64 x12) ∧ Does Try.prog 33 #[.int .i64 (IntKind.i64.wrap (x12 - 1))] w8 (fun v w14 => ∃ (x15 : Int), v = .int .i64 x15 ∧ if (IntKind.i64.wrap (0 - x15)) ≤ v5 then
    ∃ (x17 : Int), w14.cell? (p7.add 1) = some (.int .i64 x17) ∧ Does Try.prog 33 #[.int .i64 (IntKind.i64.wrap (x17 - 1))] w14 (fun v w19 => ∃ (x20 : Int), v = .int .i64 x20 ∧ k (.bool (decide (v5 < x20))) w19)
  else
    k (.bool false) w14)
else
  if 0 ≤ v5 then
    ∃ (x22 : Int), w8.cell? (p7.add 1) = some (.int .i64 x22) ∧ Does Try.prog 33 #[.int .i64 x22] w8 (fun v w24 => ∃ (x25 : Int), v = .int .i64 x25 ∧ k (.bool (decide (v5 < x25))) w24)
  else
    k (.bool false) w8)
set_option maxRecDepth 100000 in
set_option maxHeartbeats 2000000 in
theorem w41 (d1 : Int) (d2 : Int) (d3 : Bool) (d4 : Int) (v5 : Int) (w6 : World) (k : Value → World → Prop) (h : F41 d1 d2 d3 d4 v5 w6 k) : Does Try.prog 41 #[.agg #[.int .i64 d1, .int .i64 d2, .bool d3, .int .i64 d4], .int .i64 v5] w6 k := by
  refine enter 31 Try.func41 rfl rfl rfl ?_
  intro ρ hρ
  have e0 := hρ 0 _ rfl
  have e1 := hρ 1 _ rfl
  unfold F41 at h
  refine WC_seq ?_
  refine WC_region ?_
  have h := New.out h
  refine WL_val gd0 (o_box (v := .agg #[.int .i64 d1, .int .i64 d2, .bool d3, .int .i64 d4]) (cs := [.int .i64 d1, .int .i64 d2, .bool d3, .int .i64 d4]) (by exact e0) rfl) rfl ?_
  generalize hp7 : fresh w6 = p7 at h ⊢
  generalize hw8 : push w6 43 [.int .i64 d1, .int .i64 d2, .bool d3, .int .i64 d4] = w8 at h ⊢
  try dsimp only at h
  refine WL_val gd0 ((o_assign (v := .bool false) rfl) _) rfl ?_
  refine WL_nil ?_
  refine nrm ?_
  refine WC_seq ?_
  refine WC_seq ?_
  refine WC_region ?_
  refine WL_val gd0 ((o_fieldAddr 2 Try.underlying43 rfl Try.sizeOf4 rfl rfl rfl) _) rfl ?_
  obtain ⟨x9, hc10, h⟩ := h
  refine WL_val gd0 (o_load Try.isAgg4 rfl hc10) rfl ?_
  refine WL_nil ?_
  refine nrm ?_
  refine WC_cond (t := x9) rfl (fun hb11 => ?_) (fun hb11 => ?_)
  · rw [if_pos hb11] at h
    refine WC_seq ?_
    refine WC_region ?_
    refine WL_val gd0 ((o_move (v := .int .i64 v5) (by exact e1)) _) rfl ?_
    refine WL_val gd0 ((o_fieldAddr 1 Try.underlying43 rfl Try.sizeOf3 rfl rfl rfl) _) rfl ?_
    obtain ⟨x12, hc13, h⟩ := h
    refine WL_val gd0 (o_load Try.isAgg3 rfl hc13) rfl ?_
    refine WL_val gd0 ((o_sub rfl rfl) _) rfl ?_
    refine WL_call gd0 (o_call Try.call33 (argCons rfl argNil) _) rfl (h.mono ?_)
    rintro _ w14 ⟨x15, rfl, h⟩
    refine WL_val gd0 ((o_neg rfl) _) rfl ?_
    refine WL_val gd0 ((o_geq rfl rfl) _) rfl ?_
    refine WL_val gd0 ((o_move (v := .bool (decide ((IntKind.i64.wrap (0 - x15)) ≤ v5))) rfl) _) rfl ?_
    refine bsplit (decide ((IntKind.i64.wrap (0 - x15)) ≤ v5)) (fun hb16 => ?_) (fun hb16 => ?_)
    · rw [if_pos (of_decide_eq_true hb16)] at h
      refine WL_val (gdY (b := (decide ((IntKind.i64.wrap (0 - x15)) ≤ v5))) 14 rfl rfl hb16) ((o_move (v := .int .i64 v5) (by exact e1)) _) rfl ?_
      refine WL_val (gdY (b := (decide ((IntKind.i64.wrap (0 - x15)) ≤ v5))) 14 rfl rfl hb16) ((o_fieldAddr 1 Try.underlying43 rfl Try.sizeOf3 rfl rfl rfl) _) rfl ?_
      obtain ⟨x17, hc18, h⟩ := h
      refine WL_val (gdY (b := (decide ((IntKind.i64.wrap (0 - x15)) ≤ v5))) 14 rfl rfl hb16) (o_load Try.isAgg3 rfl hc18) rfl ?_
      refine WL_val (gdY (b := (decide ((IntKind.i64.wrap (0 - x15)) ≤ v5))) 14 rfl rfl hb16) ((o_sub rfl rfl) _) rfl ?_
      refine WL_call (gdY (b := (decide ((IntKind.i64.wrap (0 - x15)) ≤ v5))) 14 rfl rfl hb16) (o_call Try.call33 (argCons rfl argNil) _) rfl (h.mono ?_)
      rintro _ w19 ⟨x20, rfl, h⟩
      refine WL_val (gdY (b := (decide ((IntKind.i64.wrap (0 - x15)) ≤ v5))) 14 rfl rfl hb16) ((o_lss rfl rfl) _) rfl ?_
      refine WL_val gd0 ((o_pickT (v := .bool (decide (v5 < x20))) rfl hb16 rfl) _) rfl ?_
      refine WL_val gd0 ((o_assign (v := .bool (decide (v5 < x20))) rfl) _) rfl ?_
      refine WL_nil ?_
      refine nrm ?_
      refine WC_ret ?_
      refine rtT ?_
      refine rtE ?_
      exact gv1 rfl rfl h
    · rw [if_neg (of_decide_eq_false hb16)] at h
      refine WL_skip (gdN (b := (decide ((IntKind.i64.wrap (0 - x15)) ≤ v5))) 14 rfl rfl hb16) rfl ?_
      refine WL_skip (gdN (b := (decide ((IntKind.i64.wrap (0 - x15)) ≤ v5))) 14 rfl rfl hb16) rfl ?_
      refine WL_skip (gdN (b := (decide ((IntKind.i64.wrap (0 - x15)) ≤ v5))) 14 rfl rfl hb16) rfl ?_
      refine WL_skip (gdN (b := (decide ((IntKind.i64.wrap (0 - x15)) ≤ v5))) 14 rfl rfl hb16) rfl ?_
      refine WL_skip (gdN (b := (decide ((IntKind.i64.wrap (0 - x15)) ≤ v5))) 14 rfl rfl hb16) rfl ?_
      refine WL_skip (gdN (b := (decide ((IntKind.i64.wrap (0 - x15)) ≤ v5))) 14 rfl rfl hb16) rfl ?_
      refine WL_val gd0 ((o_pickF (v := .bool false) rfl hb16 rfl) _) rfl ?_
      refine WL_val gd0 ((o_assign (v := .bool false) rfl) _) rfl ?_
      refine WL_nil ?_
      refine nrm ?_
      refine WC_ret ?_
      refine rtT ?_
      refine rtE ?_
      exact gv1 rfl rfl h
  · rw [if_neg (neT hb11)] at h
    refine WC_skip ?_
    refine nrm ?_
    refine WC_seq ?_
    refine WC_region ?_
    refine WL_val gd0 ((o_move (v := .int .i64 v5) (by exact e1)) _) rfl ?_
    refine WL_val gd0 ((o_geq rfl rfl) _) rfl ?_
    refine WL_val gd0 ((o_move (v := .bool (decide (0 ≤ v5))) rfl) _) rfl ?_
    refine bsplit (decide (0 ≤ v5)) (fun hb21 => ?_) (fun hb21 => ?_)
    · rw [if_pos (of_decide_eq_true hb21)] at h
      refine WL_val (gdY (b := (decide (0 ≤ v5))) 24 rfl rfl hb21) ((o_move (v := .int .i64 v5) (by exact e1)) _) rfl ?_
      refine WL_val (gdY (b := (decide (0 ≤ v5))) 24 rfl rfl hb21) ((o_fieldAddr 1 Try.underlying43 rfl Try.sizeOf3 rfl rfl rfl) _) rfl ?_
      obtain ⟨x22, hc23, h⟩ := h
      refine WL_val (gdY (b := (decide (0 ≤ v5))) 24 rfl rfl hb21) (o_load Try.isAgg3 rfl hc23) rfl ?_
      refine WL_call (gdY (b := (decide (0 ≤ v5))) 24 rfl rfl hb21) (o_call Try.call33 (argCons rfl argNil) _) rfl (h.mono ?_)
      rintro _ w24 ⟨x25, rfl, h⟩
      refine WL_val (gdY (b := (decide (0 ≤ v5))) 24 rfl rfl hb21) ((o_lss rfl rfl) _) rfl ?_
      refine WL_val gd0 ((o_pickT (v := .bool (decide (v5 < x25))) rfl hb21 rfl) _) rfl ?_
      refine WL_val gd0 ((o_assign (v := .bool (decide (v5 < x25))) rfl) _) rfl ?_
      refine WL_nil ?_
      refine nrm ?_
      refine WC_ret ?_
      refine rtE ?_
      exact gv1 rfl rfl h
    · rw [if_neg (of_decide_eq_false hb21)] at h
      refine WL_skip (gdN (b := (decide (0 ≤ v5))) 24 rfl rfl hb21) rfl ?_
      refine WL_skip (gdN (b := (decide (0 ≤ v5))) 24 rfl rfl hb21) rfl ?_
      refine WL_skip (gdN (b := (decide (0 ≤ v5))) 24 rfl rfl hb21) rfl ?_
      refine WL_skip (gdN (b := (decide (0 ≤ v5))) 24 rfl rfl hb21) rfl ?_
      refine WL_skip (gdN (b := (decide (0 ≤ v5))) 24 rfl rfl hb21) rfl ?_
      refine WL_val gd0 ((o_pickF (v := .bool false) rfl hb21 rfl) _) rfl ?_
      refine WL_val gd0 ((o_assign (v := .bool false) rfl) _) rfl ?_
      refine WL_nil ?_
      refine nrm ?_
      refine WC_ret ?_
      refine rtE ?_
      exact gv1 rfl rfl h

/-- (*spacecraft params.table spacecraft api.ParamDef ).clone -/
def F42 (t1 : Option Addr) (w2 : World) (k : Value → World → Prop) : Prop :=
  New w2 62 [.slice none 0 0, .slice none 0 0] (fun p3 w4 => ∃ (p5 : Addr), t1 = some p5 ∧ ∃ (x_a7 : Option Addr) (x_n8 x_c9 : Nat), w4.drew.cell? p5 = some (.slice x_a7 x_n8 x_c9) ∧ ∃ (x_a11 : Option Addr) (x_n12 x_c13 : Nat), w4.drew.cell? (p5.add 1) = some (.slice x_a11 x_n12 x_c13) ∧ Does Try.prog 46 #[.slice x_a7 x_n8 x_c9] w4.drew (fun v w15 => ∃ (x_a16 : Option Addr) (x_n17 x_c18 : Nat), v = .slice x_a16 x_n17 x_c18 ∧ w15.cell? (p5.add 1) = some (.slice x_a11 x_n12 x_c13) ∧ Does Try.prog 47 #[.slice x_a11 x_n12 x_c13] w15 (fun v w20 => ∃ (x_a21 : Option Addr) (x_n22 x_c23 : Nat), v = .slice x_a21 x_n22 x_c23 ∧ PutAll w20 p3 [.slice x_a16 x_n17 x_c18, .slice x_a21 x_n22 x_c23] (fun w24 => ∃ (r_a26 : Option Addr) (r_n27 r_c28 : Nat) (r_a29 : Option Addr) (r_n30 r_c31 : Nat), Cells w24 p3 0 [.slice r_a26 r_n27 r_c28, .slice r_a29 r_n30 r_c31] ∧ k (.agg #[.slice r_a26 r_n27 r_c28, .slice r_a29 r_n30 r_c31]) w24))))
set_option maxRecDepth 100000 in
set_option maxHeartbeats 2000000 in
theorem w42 (t1 : Option Addr) (w2 : World) (k : Value → World → Prop) (h : F42 t1 w2 k) : Does Try.prog 42 #[.pointer t1] w2 k := by
  refine enter 14 Try.func42 rfl rfl rfl ?_
  intro ρ hρ
  have e0 := hρ 0 _ rfl
  unfold F42 at h
  refine WC_seq ?_
  refine WC_region ?_
  have h := New.out h
  refine WL_val gd0 (o_alloc (z := .agg #[.slice none 0 0, .slice none 0 0]) (cs := [.slice none 0 0, .slice none 0 0]) Try.zeroValue62 rfl) rfl ?_
  generalize hp3 : fresh w2 = p3 at h ⊢
  generalize hw4 : push w2 62 [.slice none 0 0, .slice none 0 0] = w4 at h ⊢
  try dsimp only at h
  refine WL_nil ?_
  refine nrm ?_
  refine WC_seq ?_
  refine WC_draws [4, 9, 11] (.look 0 (.look 1 (.look 2 (.look 3 (.look 5 (.look 6 (.look 7 (.look 8 (.act 4 (.act 9 (.look 10 (.act 11 .nil)))))))))))) Try.mixed (by kernel_rfl) ?_
  refine WQ_val rfl gd0 (o_move (v := .pointer t1) (by exact e0)) rfl ?_
  obtain ⟨p5, q6, h⟩ := h
  refine WQ_val rfl gd0 (o_nilCheck (by exact (congrArg Value.pointer q6))) rfl ?_
  refine WQ_val rfl gd0 (o_fieldAddr0 Try.underlying62 rfl Try.sizeOf23 rfl rfl rfl) rfl ?_
  obtain ⟨x_a7, x_n8, x_c9, hc10, h⟩ := h
  refine WQ_look (fun w => w.cell? p5 = some (.slice x_a7 x_n8 x_c9)) rfl gd0 (fun w hc => (o_load Try.isAgg23 rfl hc)) hc10 rfl ?_
  refine WQ_val rfl gd0 (o_move (v := .pointer t1) (by exact e0)) rfl ?_
  refine WQ_val rfl gd0 (o_nilCheck (by exact (congrArg Value.pointer q6))) rfl ?_
  refine WQ_val rfl gd0 (o_fieldAddr 1 Try.underlying62 rfl Try.sizeOf22 rfl rfl rfl) rfl ?_
  obtain ⟨x_a11, x_n12, x_c13, hc14, h⟩ := h
  refine WQ_look (fun w => w.cell? (p5.add 1) = some (.slice x_a11 x_n12 x_c13)) rfl gd0 (fun w hc => (o_load Try.isAgg22 rfl hc)) hc14 rfl ?_
  refine WQ_call rfl gd0 (o_call Try.call46 (argCons rfl argNil) _) rfl (h.mono ?_)
  rintro _ w15 ⟨x_a16, x_n17, x_c18, rfl, hh19, h⟩
  refine ⟨⟨⟨trivial, depT (by kernel_rfl)⟩, fun _ => hh19⟩, ?_⟩
  refine WQ_call rfl gd0 (o_call Try.call47 (argCons rfl argNil) _) rfl (h.mono ?_)
  rintro _ w20 ⟨x_a21, x_n22, x_c23, rfl, h⟩
  refine ⟨⟨⟨trivial, depT (by kernel_rfl)⟩, depT (by kernel_rfl)⟩, ?_⟩
  refine WQ_val rfl gd0 (o_build (ps := [(0, .slice x_a16 x_n17 x_c18), (1, .slice x_a21 x_n22 x_c23)]) (v := .agg #[.slice x_a16 x_n17 x_c18, .slice x_a21 x_n22 x_c23]) (partCons rfl (partCons rfl partNil)) (fun w => by kernel_rfl)) rfl ?_
  obtain ⟨c25, h⟩ := h
  refine WQ_do rfl gd0 (o_storeAgg (vs := [.slice x_a16 x_n17 x_c18, .slice x_a21 x_n22 x_c23]) Try.sizeOf62 rfl rfl rfl c25) (by exact ⟨⟨trivial, depT (by kernel_rfl)⟩, depT (by kernel_rfl)⟩) ?_
  generalize hw24 : setAll w20 p3 0 [.slice x_a16 x_n17 x_c18, .slice x_a21 x_n22 x_c23] = w24 at h ⊢
  try dsimp only at h
  refine WQ_nil ?_
  refine nrm ?_
  refine WC_ret ?_
  refine rtE ?_
  obtain ⟨r_a26, r_n27, r_c28, r_a29, r_n30, r_c31, hc32, h⟩ := h
  exact gvC (vs := [.slice r_a26 r_n27 r_c28, .slice r_a29 r_n30 r_c31]) rfl Try.isAgg62 Try.sizeOf62 rfl hc32 h

/-- (*spacecraft bits.Reader).ok -/
def F43 (r1 : Option Addr) (w2 : World) (k : Value → World → Prop) : Prop :=
  if (!(r1).isNone) = true then
  ∃ (p4 : Addr), r1 = some p4 ∧ ∃ (x6 : Bool), w2.cell? p4 = some (.bool x6) ∧ if x6 = true then
    ∃ (x9 : Bool), w2.cell? (p4.add 3) = some (.bool x9) ∧ k (.bool (!x9)) w2
  else
    k (.bool false) w2
else
  k (.bool false) w2
set_option maxRecDepth 100000 in
set_option maxHeartbeats 2000000 in
theorem w43 (r1 : Option Addr) (w2 : World) (k : Value → World → Prop) (h : F43 r1 w2 k) : Does Try.prog 43 #[.pointer r1] w2 k := by
  refine enter 18 Try.func43 rfl rfl rfl ?_
  intro ρ hρ
  have e0 := hρ 0 _ rfl
  unfold F43 at h
  refine WC_seq ?_
  refine WC_region ?_
  refine WL_val gd0 ((o_assign (v := .bool false) rfl) _) rfl ?_
  refine WL_nil ?_
  refine nrm ?_
  refine WC_seq ?_
  refine WC_region ?_
  refine WL_val gd0 ((o_move (v := .pointer r1) (by exact e0)) _) rfl ?_
  refine WL_val gd0 ((o_neqPtrNil Try.underlying69 rfl rfl) _) rfl ?_
  refine WL_val gd0 ((o_move (v := .bool (!(r1).isNone)) rfl) _) rfl ?_
  refine bsplit (!(r1).isNone) (fun hb3 => ?_) (fun hb3 => ?_)
  · rw [if_pos hb3] at h
    refine WL_val (gdY (b := (!(r1).isNone)) 5 rfl rfl hb3) ((o_move (v := .pointer r1) (by exact e0)) _) rfl ?_
    obtain ⟨p4, q5, h⟩ := h
    refine WL_val (gdY (b := (!(r1).isNone)) 5 rfl rfl hb3) ((o_nilCheck (by exact (congrArg Value.pointer q5))) _) rfl ?_
    refine WL_val (gdY (b := (!(r1).isNone)) 5 rfl rfl hb3) ((o_fieldAddr0 Try.underlying90 rfl Try.sizeOf4 rfl rfl rfl) _) rfl ?_
    obtain ⟨x6, hc7, h⟩ := h
    refine WL_val (gdY (b := (!(r1).isNone)) 5 rfl rfl hb3) (o_load Try.isAgg4 rfl hc7) rfl ?_
    refine WL_val gd0 ((o_pickT (v := .bool x6) rfl hb3 rfl) _) rfl ?_
    refine WL_val gd0 ((o_move (v := .bool x6) rfl) _) rfl ?_
    refine bsplit x6 (fun hb8 => ?_) (fun hb8 => ?_)
    · rw [if_pos hb8] at h
      refine WL_val (gdY (b := x6) 11 rfl rfl hb8) ((o_move (v := .pointer r1) (by exact e0)) _) rfl ?_
      refine WL_val (gdY (b := x6) 11 rfl rfl hb8) ((o_nilCheck (by exact (congrArg Value.pointer q5))) _) rfl ?_
      refine WL_val (gdY (b := x6) 11 rfl rfl hb8) ((o_fieldAddr 3 Try.underlying90 rfl Try.sizeOf4 rfl rfl rfl) _) rfl ?_
      obtain ⟨x9, hc10, h⟩ := h
      refine WL_val (gdY (b := x6) 11 rfl rfl hb8) (o_load Try.isAgg4 rfl hc10) rfl ?_
      refine WL_val (gdY (b := x6) 11 rfl rfl hb8) ((o_not rfl) _) rfl ?_
      refine WL_val gd0 ((o_pickT (v := .bool (!x9)) rfl hb8 rfl) _) rfl ?_
      refine WL_val gd0 ((o_assign (v := .bool (!x9)) rfl) _) rfl ?_
      refine WL_nil ?_
      refine nrm ?_
      refine WC_ret ?_
      refine rtE ?_
      exact gv1 rfl rfl h
    · rw [if_neg (neT hb8)] at h
      refine WL_skip (gdN (b := x6) 11 rfl rfl hb8) rfl ?_
      refine WL_skip (gdN (b := x6) 11 rfl rfl hb8) rfl ?_
      refine WL_skip (gdN (b := x6) 11 rfl rfl hb8) rfl ?_
      refine WL_skip (gdN (b := x6) 11 rfl rfl hb8) rfl ?_
      refine WL_skip (gdN (b := x6) 11 rfl rfl hb8) rfl ?_
      refine WL_val gd0 ((o_pickF (v := .bool false) rfl hb8 rfl) _) rfl ?_
      refine WL_val gd0 ((o_assign (v := .bool false) rfl) _) rfl ?_
      refine WL_nil ?_
      refine nrm ?_
      refine WC_ret ?_
      refine rtE ?_
      exact gv1 rfl rfl h
  · rw [if_neg (neT hb3)] at h
    refine WL_skip (gdN (b := (!(r1).isNone)) 5 rfl rfl hb3) rfl ?_
    refine WL_skip (gdN (b := (!(r1).isNone)) 5 rfl rfl hb3) rfl ?_
    refine WL_skip (gdN (b := (!(r1).isNone)) 5 rfl rfl hb3) rfl ?_
    refine WL_skip (gdN (b := (!(r1).isNone)) 5 rfl rfl hb3) rfl ?_
    refine WL_val gd0 ((o_pickF (v := .bool false) rfl hb3 rfl) _) rfl ?_
    refine WL_val gd0 ((o_move (v := .bool false) rfl) _) rfl ?_
    refine WL_skip (gdN (b := false) 11 rfl rfl rfl) rfl ?_
    refine WL_skip (gdN (b := false) 11 rfl rfl rfl) rfl ?_
    refine WL_skip (gdN (b := false) 11 rfl rfl rfl) rfl ?_
    refine WL_skip (gdN (b := false) 11 rfl rfl rfl) rfl ?_
    refine WL_skip (gdN (b := false) 11 rfl rfl rfl) rfl ?_
    refine WL_val gd0 ((o_pickF (v := .bool false) rfl rfl rfl) _) rfl ?_
    refine WL_val gd0 ((o_assign (v := .bool false) rfl) _) rfl ?_
    refine WL_nil ?_
    refine nrm ?_
    refine WC_ret ?_
    refine rtE ?_
    exact gv1 rfl rfl h

/-- (*spacecraft bits.Writer).ok -/
def F44 (w1 : Option Addr) (w2 : World) (k : Value → World → Prop) : Prop :=
  if (!(w1).isNone) = true then
  ∃ (p4 : Addr), w1 = some p4 ∧ ∃ (x6 : Bool), w2.cell? p4 = some (.bool x6) ∧ k (.bool x6) w2
else
  k (.bool false) w2
set_option maxRecDepth 100000 in
set_option maxHeartbeats 2000000 in
theorem w44 (w1 : Option Addr) (w2 : World) (k : Value → World → Prop) (h : F44 w1 w2 k) : Does Try.prog 44 #[.pointer w1] w2 k := by
  refine enter 11 Try.func44 rfl rfl rfl ?_
  intro ρ hρ
  have e0 := hρ 0 _ rfl
  unfold F44 at h
  refine WC_seq ?_
  refine WC_region ?_
  refine WL_val gd0 ((o_assign (v := .bool false) rfl) _) rfl ?_
  refine WL_nil ?_
  refine nrm ?_
  refine WC_seq ?_
  refine WC_region ?_
  refine WL_val gd0 ((o_move (v := .pointer w1) (by exact e0)) _) rfl ?_
  refine WL_val gd0 ((o_neqPtrNil Try.underlying81 rfl rfl) _) rfl ?_
  refine WL_val gd0 ((o_move (v := .bool (!(w1).isNone)) rfl) _) rfl ?_
  refine bsplit (!(w1).isNone) (fun hb3 => ?_) (fun hb3 => ?_)
  · rw [if_pos hb3] at h
    refine WL_val (gdY (b := (!(w1).isNone)) 5 rfl rfl hb3) ((o_move (v := .pointer w1) (by exact e0)) _) rfl ?_
    obtain ⟨p4, q5, h⟩ := h
    refine WL_val (gdY (b := (!(w1).isNone)) 5 rfl rfl hb3) ((o_nilCheck (by exact (congrArg Value.pointer q5))) _) rfl ?_
    refine WL_val (gdY (b := (!(w1).isNone)) 5 rfl rfl hb3) ((o_fieldAddr0 Try.underlying94 rfl Try.sizeOf4 rfl rfl rfl) _) rfl ?_
    obtain ⟨x6, hc7, h⟩ := h
    refine WL_val (gdY (b := (!(w1).isNone)) 5 rfl rfl hb3) (o_load Try.isAgg4 rfl hc7) rfl ?_
    refine WL_val gd0 ((o_pickT (v := .bool x6) rfl hb3 rfl) _) rfl ?_
    refine WL_val gd0 ((o_assign (v := .bool x6) rfl) _) rfl ?_
    refine WL_nil ?_
    refine nrm ?_
    refine WC_ret ?_
    refine rtE ?_
    exact gv1 rfl rfl h
  · rw [if_neg (neT hb3)] at h
    refine WL_skip (gdN (b := (!(w1).isNone)) 5 rfl rfl hb3) rfl ?_
    refine WL_skip (gdN (b := (!(w1).isNone)) 5 rfl rfl hb3) rfl ?_
    refine WL_skip (gdN (b := (!(w1).isNone)) 5 rfl rfl hb3) rfl ?_
    refine WL_skip (gdN (b := (!(w1).isNone)) 5 rfl rfl hb3) rfl ?_
    refine WL_val gd0 ((o_pickF (v := .bool false) rfl hb3 rfl) _) rfl ?_
    refine WL_val gd0 ((o_assign (v := .bool false) rfl) _) rfl ?_
    refine WL_nil ?_
    refine nrm ?_
    refine WC_ret ?_
    refine rtE ?_
    exact gv1 rfl rfl h

/-- (*spacecraft params.table spacecraft api.ParamDef ).find -/
def F45 (t1 : Option Addr) (id2 : Int) (w3 : World) (k : Value → World → Prop) : Prop :=
  ∃ (p4 : Addr), t1 = some p4 ∧ ∃ (x_a6 : Option Addr) (x_n7 x_c8 : Nat), w3.cell? p4 = some (.slice x_a6 x_n7 x_c8) ∧ Does Try.prog 48 #[.slice x_a6 x_n7 x_c8, .int .i64 id2] w3 (fun v w10 => ∃ (r11 : Int) (r12 : Bool), v = .tuple #[.int .i64 r11, .bool r12] ∧ k (.tuple #[.int .i64 r11, .bool r12]) w10)
set_option maxRecDepth 100000 in
set_option maxHeartbeats 2000000 in
theorem w45 (t1 : Option Addr) (id2 : Int) (w3 : World) (k : Value → World → Prop) (h : F45 t1 id2 w3 k) : Does Try.prog 45 #[.pointer t1, .int .i64 id2] w3 k := by
  refine enter 14 Try.func45 rfl rfl rfl ?_
  intro ρ hρ
  have e0 := hρ 0 _ rfl
  have e1 := hρ 1 _ rfl
  unfold F45 at h
  refine WC_seq ?_
  refine WC_region ?_
  refine WL_val gd0 ((o_assign (v := .int .i64 0) rfl) _) rfl ?_
  refine WL_val gd0 ((o_assign (v := .bool false) rfl) _) rfl ?_
  refine WL_nil ?_
  refine nrm ?_
  refine WC_seq ?_
  refine WC_region ?_
  refine WL_val gd0 ((o_move (v := .pointer t1) (by exact e0)) _) rfl ?_
  obtain ⟨p4, q5, h⟩ := h
  refine WL_val gd0 ((o_nilCheck (by exact (congrArg Value.pointer q5))) _) rfl ?_
  refine WL_val gd0 ((o_fieldAddr0 Try.underlying62 rfl Try.sizeOf23 rfl rfl rfl) _) rfl ?_
  obtain ⟨x_a6, x_n7, x_c8, hc9, h⟩ := h
  refine WL_val gd0 (o_load Try.isAgg23 rfl hc9) rfl ?_
  refine WL_val gd0 ((o_move (v := .int .i64 id2) (by exact e1)) _) rfl ?_
  refine WL_call gd0 (o_call Try.call48 (argCons rfl (argCons rfl argNil)) _) rfl (h.mono ?_)
  rintro _ w10 ⟨r11, r12, rfl, h⟩
  refine WL_val gd0 ((o_extract (vs := [.int .i64 r11, .bool r12]) (r := .int .i64 r11) rfl rfl) _) rfl ?_
  refine WL_val gd0 ((o_extract (vs := [.int .i64 r11, .bool r12]) (r := .bool r12) rfl rfl) _) rfl ?_
  refine WL_val gd0 ((o_assign (v := .int .i64 r11) rfl) _) rfl ?_
  refine WL_val gd0 ((o_assign (v := .bool r12) rfl) _) rfl ?_
  refine WL_nil ?_
  refine nrm ?_
  refine WC_ret ?_
  refine rtE ?_
  exact gv2 rfl rfl rfl h

/-- slices.Clone   int,int  -/
def F46 (s_a1 : Option Addr) (s_n2 : Nat) (s_c3 : Nat) (w4 : World) (k : Value → World → Prop) : Prop :=
  if (s_a1).isNone = true then
  k (.slice none 0 0) w4
else
  New w4 3 [] (fun p6 w7 => ∃ (b_a8 : Option Addr) (b_n9 b_c10 : Nat) (w11 : World), (Builtin.append_ #[23, 23] 23 #[.slice (some p6) 0 0, .slice s_a1 s_n2 s_c3]).run Try.prog w7 = .ok (.slice b_a8 b_n9 b_c10) w11 ∧ k (.slice b_a8 b_n9 b_c10) w11)
set_option maxRecDepth 100000 in
set_option maxHeartbeats 2000000 in
theorem w46 (s_a1 : Option Addr) (s_n2 : Nat) (s_c3 : Nat) (w4 : World) (k : Value → World → Prop) (h : F46 s_a1 s_n2 s_c3 w4 k) : Does Try.prog 46 #[.slice s_a1 s_n2 s_c3] w4 k := by
  refine enter 8 Try.func46 rfl rfl rfl ?_
  intro ρ hρ
  have e0 := hρ 0 _ rfl
  unfold F46 at h
  refine WC_seq ?_
  refine WC_region ?_
  refine WL_val gd0 ((o_assign (v := .slice none 0 0) rfl) _) rfl ?_
  refine WL_nil ?_
  refine nrm ?_
  refine WC_seq ?_
  refine WC_seq ?_
  refine WC_region ?_
  refine WL_val gd0 ((o_move (v := .slice s_a1 s_n2 s_c3) (by exact e0)) _) rfl ?_
  refine WL_val gd0 ((o_eqlSliceNil Try.underlying23 rfl rfl) _) rfl ?_
  refine WL_nil ?_
  refine nrm ?_
  refine WC_cond (t := ((s_a1).isNone)) rfl (fun hb5 => ?_) (fun hb5 => ?_)
  · rw [if_pos hb5] at h
    refine WC_seq ?_
    refine WC_region ?_
    refine WL_val gd0 ((o_assign (v := .slice none 0 0) rfl) _) rfl ?_
    refine WL_nil ?_
    refine nrm ?_
    refine WC_ret ?_
    refine rtT ?_
    refine rtE ?_
    exact gv1 rfl rfl h
  · rw [if_neg (neT hb5)] at h
    refine WC_skip ?_
    refine nrm ?_
    refine WC_seq ?_
    refine WC_region ?_
    have h := New.out h
    refine WL_val gd0 (o_buildSlice (e := 3) (ps := []) (cs := []) partNil (fun w => by kernel_rfl)) rfl ?_
    generalize hp6 : fresh w4 = p6 at h ⊢
    generalize hw7 : push w4 3 [] = w7 at h ⊢
    try dsimp only at h
    refine WL_val gd0 ((o_move (v := .slice s_a1 s_n2 s_c3) (by exact e0)) _) rfl ?_
    obtain ⟨b_a8, b_n9, b_c10, w11, r12, h⟩ := h
    refine WL_val gd0 (o_append rfl rfl r12) rfl ?_
    refine WL_val gd0 ((o_assign (v := .slice b_a8 b_n9 b_c10) rfl) _) rfl ?_
    refine WL_nil ?_
    refine nrm ?_
    refine WC_ret ?_
    refine rtE ?_
    exact gv1 rfl rfl h

/-- slices.Clone   spacecraft api.ParamDef,spacecraft api.ParamDef  -/
def F47 (s_a1 : Option Addr) (s_n2 : Nat) (s_c3 : Nat) (w4 : World) (k : Value → World → Prop) : Prop :=
  if (s_a1).isNone = true then
  k (.slice none 0 0) w4
else
  New w4 43 [] (fun p6 w7 => ∃ (b_a8 : Option Addr) (b_n9 b_c10 : Nat) (w11 : World), (Builtin.append_ #[22, 22] 22 #[.slice (some p6) 0 0, .slice s_a1 s_n2 s_c3]).run Try.prog w7 = .ok (.slice b_a8 b_n9 b_c10) w11 ∧ k (.slice b_a8 b_n9 b_c10) w11)
set_option maxRecDepth 100000 in
set_option maxHeartbeats 2000000 in
theorem w47 (s_a1 : Option Addr) (s_n2 : Nat) (s_c3 : Nat) (w4 : World) (k : Value → World → Prop) (h : F47 s_a1 s_n2 s_c3 w4 k) : Does Try.prog 47 #[.slice s_a1 s_n2 s_c3] w4 k := by
  refine enter 8 Try.func47 rfl rfl rfl ?_
  intro ρ hρ
  have e0 := hρ 0 _ rfl
  unfold F47 at h
  refine WC_seq ?_
  refine WC_region ?_
  refine WL_val gd0 ((o_assign (v := .slice none 0 0) rfl) _) rfl ?_
  refine WL_nil ?_
  refine nrm ?_
  refine WC_seq ?_
  refine WC_seq ?_
  refine WC_region ?_
  refine WL_val gd0 ((o_move (v := .slice s_a1 s_n2 s_c3) (by exact e0)) _) rfl ?_
  refine WL_val gd0 ((o_eqlSliceNil Try.underlying22 rfl rfl) _) rfl ?_
  refine WL_nil ?_
  refine nrm ?_
  refine WC_cond (t := ((s_a1).isNone)) rfl (fun hb5 => ?_) (fun hb5 => ?_)
  · rw [if_pos hb5] at h
    refine WC_seq ?_
    refine WC_region ?_
    refine WL_val gd0 ((o_assign (v := .slice none 0 0) rfl) _) rfl ?_
    refine WL_nil ?_
    refine nrm ?_
    refine WC_ret ?_
    refine rtT ?_
    refine rtE ?_
    exact gv1 rfl rfl h
  · rw [if_neg (neT hb5)] at h
    refine WC_skip ?_
    refine nrm ?_
    refine WC_seq ?_
    refine WC_region ?_
    have h := New.out h
    refine WL_val gd0 (o_buildSlice (e := 43) (ps := []) (cs := []) partNil (fun w => by kernel_rfl)) rfl ?_
    generalize hp6 : fresh w4 = p6 at h ⊢
    generalize hw7 : push w4 43 [] = w7 at h ⊢
    try dsimp only at h
    refine WL_val gd0 ((o_move (v := .slice s_a1 s_n2 s_c3) (by exact e0)) _) rfl ?_
    obtain ⟨b_a8, b_n9, b_c10, w11, r12, h⟩ := h
    refine WL_val gd0 (o_append rfl rfl r12) rfl ?_
    refine WL_val gd0 ((o_assign (v := .slice b_a8 b_n9 b_c10) rfl) _) rfl ?_
    refine WL_nil ?_
    refine nrm ?_
    refine WC_ret ?_
    refine rtE ?_
    exact gv1 rfl rfl h

def F48_b1 (x_a1 : Option Addr) (x_n2 : Nat) (target4 : Int) (i10 : Int) (j12 : Int) (w13 : World) (nx13 : Int → Int → World → Prop) (k : Value → World → Prop) : Prop :=
  if i10 < j12 then
  ∃ (p18 : Addr), x_a1 = some p18 ∧ (0 : Int) ≤ IntKind.i64.wrap (shr .u64 (IntKind.u64.wrap (IntKind.i64.wrap (i10 + j12))) 1) ∧ IntKind.i64.wrap (shr .u64 (IntKind.u64.wrap (IntKind.i64.wrap (i10 + j12))) 1) < (x_n2 : Int) ∧ ∃ (x20 : Int), w13.cell? (p18.add ((IntKind.i64.wrap (shr .u64 (IntKind.u64.wrap (IntKind.i64.wrap (i10 + j12))) 1)).toNat)) = some (.int .i64 x20) ∧ Does Try.prog 49 #[.int .i64 x20, .int .i64 target4] w13 (fun v w22 => ∃ (x23 : Bool), v = .bool x23 ∧ if x23 = true then
    nx13 (IntKind.i64.wrap ((IntKind.i64.wrap (shr .u64 (IntKind.u64.wrap (IntKind.i64.wrap (i10 + j12))) 1)) + 1)) j12 w22
  else
    nx13 i10 (IntKind.i64.wrap (shr .u64 (IntKind.u64.wrap (IntKind.i64.wrap (i10 + j12))) 1)) w22)
else
  if i10 < (x_n2 : Int) then
    ∃ (p28 : Addr), x_a1 = some p28 ∧ (0 : Int) ≤ i10 ∧ i10 < (x_n2 : Int) ∧ ∃ (x30 : Int), w13.cell? (p28.add i10.toNat) = some (.int .i64 x30) ∧ if x30 = target4 then
      k (.tuple #[.int .i64 i10, .bool true]) w13
    else
      (0 : Int) ≤ i10 ∧ i10 < (x_n2 : Int) ∧ ∃ (x35 : Int), w13.cell? (p28.add i10.toNat) = some (.int .i64 x35) ∧ Does Try.prog 50 #[.int .i64 x35] w13 (fun v w37 => ∃ (x38 : Bool), v = .bool x38 ∧ if x38 = true then
        Does Try.prog 50 #[.int .i64 target4] w37 (fun v w40 => ∃ (x41 : Bool), v = .bool x41 ∧ k (.tuple #[.int .i64 i10, .bool x41]) w40)
      else
        k (.tuple #[.int .i64 i10, .bool false]) w37)
  else
    k (.tuple #[.int .i64 i10, .bool false]) w13
/-- slices.BinarySearch   int,int  -/
def F48 (x_a1 : Option Addr) (x_n2 : Nat) (x_c3 : Nat) (target4 : Int) (w5 : World) (k : Value → World → Prop) : Prop :=
  LoopP (fun (s : Int × Int) w' nx' => F48_b1 x_a1 x_n2 target4 (s.1) (s.2) w' (fun x0 x1 w => nx' (x0, x1) w) k) (0, (x_n2 : Int)) w5
set_option maxRecDepth 100000 in
set_option maxHeartbeats 2000000 in
theorem w48 (x_a1 : Option Addr) (x_n2 : Nat) (x_c3 : Nat) (target4 : Int) (w5 : World) (k : Value → World → Prop) (h : F48 x_a1 x_n2 x_c3 target4 w5 k) : Does Try.prog 48 #[.slice x_a1 x_n2 x_c3, .int .i64 target4] w5 k := by
  refine enter 54 Try.func48 rfl rfl rfl ?_
  intro ρ hρ
  have e0 := hρ 0 _ rfl
  have e1 := hρ 1 _ rfl
  unfold F48 at h
  refine WC_seq ?_
  refine WC_region ?_
  refine WL_val gd0 ((o_assign (v := .int .i64 0) rfl) _) rfl ?_
  refine WL_val gd0 ((o_assign (v := .bool false) rfl) _) rfl ?_
  refine WL_nil ?_
  refine nrm ?_
  refine WC_seq ?_
  refine WC_region ?_
  refine WL_val gd0 ((o_move (v := .slice x_a1 x_n2 x_c3) (by exact e0)) _) rfl ?_
  refine WL_val gd0 ((o_len Try.underlying23 rfl) _) rfl ?_
  refine WL_val gd0 ((o_assign (v := .int .i64 (x_n2 : Int)) rfl) _) rfl ?_
  refine WL_nil ?_
  refine nrm ?_
  refine WC_seq ?_
  refine WC_region ?_
  refine WL_val gd0 ((o_move (v := .int .i64 (x_n2 : Int)) rfl) _) rfl ?_
  refine WL_val gd0 ((o_assign (v := .int .i64 0) rfl) _) rfl ?_
  refine WL_val gd0 ((o_assign (v := .int .i64 (x_n2 : Int)) rfl) _) rfl ?_
  refine WL_nil ?_
  refine nrm ?_
  refine WC_seq ?_
  refine WC_block ?_
  obtain ⟨J13, ⟨n13, h0⟩, hr13⟩ := h
  refine WC_loop (fun n ρ w' => ∃ (i10 j12 : Int), ρ 7 = .int .i64 i10 ∧ ρ 8 = .int .i64 j12 ∧ ρ 0 = .slice x_a1 x_n2 x_c3 ∧ ρ 1 = .int .i64 target4 ∧ ρ 6 = .int .i64 (x_n2 : Int) ∧ J13 n (i10, j12) w') ⟨n13, _, _, rfl, rfl, e0, e1, rfl, h0⟩ ?_
  rintro n13 ρ w13 ⟨i10, j12, e7_9, e8_11, e0_6, e1_7, e6_8, h⟩
  have h : F48_b1 x_a1 x_n2 target4 i10 j12 w13 (fun x0 x1 w => ∃ m, m < n13 ∧ J13 m (x0, x1) w) k := hr13 n13 (i10, j12) w13 h
  unfold F48_b1 at h
  refine WC_seq ?_
  refine WC_seq ?_
  refine WC_region ?_
  refine WL_val gd0 ((o_move (v := .int .i64 i10) (by exact e7_9)) _) rfl ?_
  refine WL_val gd0 ((o_move (v := .int .i64 j12) (by exact e8_11)) _) rfl ?_
  refine WL_val gd0 ((o_lss rfl rfl) _) rfl ?_
  refine WL_nil ?_
  refine nrm ?_
  refine WC_cond (t := (decide (i10 < j12))) rfl (fun hb15 => ?_) (fun hb15 => ?_)
  · rw [if_pos (of_decide_eq_true hb15)] at h
    refine WC_skip ?_
    refine nrm ?_
    refine WC_block ?_
    refine WC_seq ?_
    refine WC_region ?_
    refine WL_val gd0 ((o_move (v := .int .i64 i10) (by exact e7_9)) _) rfl ?_
    refine WL_val gd0 ((o_move (v := .int .i64 j12) (by exact e8_11)) _) rfl ?_
    refine WL_val gd0 ((o_add rfl rfl) _) rfl ?_
    refine WL_val gd0 ((o_conv Try.underlying3 Try.underlying91 rfl) _) rfl ?_
    refine WL_val gd0 ((o_shr rfl rfl (by decide)) _) rfl ?_
    refine WL_val gd0 ((o_conv Try.underlying91 Try.underlying3 rfl) _) rfl ?_
    refine WL_val gd0 ((o_assign (v := .int .i64 (IntKind.i64.wrap (shr .u64 (IntKind.u64.wrap (IntKind.i64.wrap (i10 + j12))) 1))) rfl) _) rfl ?_
    refine WL_nil ?_
    refine nrm ?_
    refine WC_seq ?_
    refine WC_region ?_
    refine WL_val gd0 ((o_move (v := .slice x_a1 x_n2 x_c3) (by exact e0_6)) _) rfl ?_
    refine WL_val gd0 ((o_move (v := .int .i64 (IntKind.i64.wrap (shr .u64 (IntKind.u64.wrap (IntKind.i64.wrap (i10 + j12))) 1))) rfl) _) rfl ?_
    obtain ⟨p18, q19, h⟩ := h
    obtain ⟨l16, u17, h⟩ := h
    refine WL_val gd0 ((o_indexAddr1 Try.underlying23 Try.sizeOf3 (by exact (congrArg (fun z => Value.slice z x_n2 x_c3) q19)) rfl l16 u17) _) rfl ?_
    obtain ⟨x20, hc21, h⟩ := h
    refine WL_val gd0 (o_load Try.isAgg3 rfl hc21) rfl ?_
    refine WL_val gd0 ((o_move (v := .int .i64 target4) (by exact e1_7)) _) rfl ?_
    refine WL_call gd0 (o_call Try.call49 (argCons rfl (argCons rfl argNil)) _) rfl (h.mono ?_)
    rintro _ w22 ⟨x23, rfl, h⟩
    refine WL_nil ?_
    refine nrm ?_
    refine WC_cond (t := x23) rfl (fun hb24 => ?_) (fun hb24 => ?_)
    · rw [if_pos hb24] at h
      refine WC_region ?_
      refine WL_val gd0 ((o_move (v := .int .i64 (IntKind.i64.wrap (shr .u64 (IntKind.u64.wrap (IntKind.i64.wrap (i10 + j12))) 1))) rfl) _) rfl ?_
      refine WL_val gd0 ((o_add rfl rfl) _) rfl ?_
      refine WL_val gd0 ((o_assign (v := .int .i64 (IntKind.i64.wrap ((IntKind.i64.wrap (shr .u64 (IntKind.u64.wrap (IntKind.i64.wrap (i10 + j12))) 1)) + 1))) rfl) _) rfl ?_
      refine WL_nil ?_
      refine nrmB ?_
      refine nrm ?_
      obtain ⟨m14, hm14, h⟩ := h
      exact ⟨m14, hm14, _, _, rfl, e8_11, e0_6, e1_7, e6_8, h⟩
    · rw [if_neg (neT hb24)] at h
      refine WC_region ?_
      refine WL_val gd0 ((o_move (v := .int .i64 (IntKind.i64.wrap (shr .u64 (IntKind.u64.wrap (IntKind.i64.wrap (i10 + j12))) 1))) rfl) _) rfl ?_
      refine WL_val gd0 ((o_assign (v := .int .i64 (IntKind.i64.wrap (shr .u64 (IntKind.u64.wrap (IntKind.i64.wrap (i10 + j12))) 1))) rfl) _) rfl ?_
      refine WL_nil ?_
      refine nrmB ?_
      refine nrm ?_
      obtain ⟨m14, hm14, h⟩ := h
      exact ⟨m14, hm14, _, _, e7_9, rfl, e0_6, e1_7, e6_8, h⟩
  · rw [if_neg (of_decide_eq_false hb15)] at h
    refine WC_exit ?_
    refine exT ?_
    refine exT ?_
    refine exB ?_
    refine nrm ?_
    refine WC_seq ?_
    refine WC_region ?_
    refine WL_val gd0 ((o_move (v := .int .i64 i10) (by exact e7_9)) _) rfl ?_
    refine WL_val gd0 ((o_move (v := .int .i64 i10) (by exact e7_9)) _) rfl ?_
    refine WL_val gd0 ((o_move (v := .int .i64 (x_n2 : Int)) (by exact e6_8)) _) rfl ?_
    refine WL_val gd0 ((o_lss rfl rfl) _) rfl ?_
    refine WL_val gd0 ((o_move (v := .bool (decide (i10 < (x_n2 : Int)))) rfl) _) rfl ?_
    refine bsplit (decide (i10 < (x_n2 : Int))) (fun hb25 => ?_) (fun hb25 => ?_)
    · rw [if_pos (of_decide_eq_true hb25)] at h
      refine WL_val (gdY (b := (decide (i10 < (x_n2 : Int)))) 35 rfl rfl hb25) ((o_move (v := .slice x_a1 x_n2 x_c3) (by exact e0_6)) _) rfl ?_
      refine WL_val (gdY (b := (decide (i10 < (x_n2 : Int)))) 35 rfl rfl hb25) ((o_move (v := .int .i64 i10) (by exact e7_9)) _) rfl ?_
      obtain ⟨p28, q29, h⟩ := h
      obtain ⟨l26, u27, h⟩ := h
      refine WL_val (gdY (b := (decide (i10 < (x_n2 : Int)))) 35 rfl rfl hb25) ((o_indexAddr1 Try.underlying23 Try.sizeOf3 (by exact (congrArg (fun z => Value.slice z x_n2 x_c3) q29)) rfl l26 u27) _) rfl ?_
      obtain ⟨x30, hc31, h⟩ := h
      refine WL_val (gdY (b := (decide (i10 < (x_n2 : Int)))) 35 rfl rfl hb25) (o_load Try.isAgg3 rfl hc31) rfl ?_
      refine WL_val (gdY (b := (decide (i10 < (x_n2 : Int)))) 35 rfl rfl hb25) ((o_move (v := .int .i64 target4) (by exact e1_7)) _) rfl ?_
      refine WL_val (gdY (b := (decide (i10 < (x_n2 : Int)))) 35 rfl rfl hb25) ((o_eql rfl rfl) _) rfl ?_
      refine WL_val (gdY (b := (decide (i10 < (x_n2 : Int)))) 35 rfl rfl hb25) ((o_move (v := .bool (decide (x30 = target4))) rfl) _) rfl ?_
      refine bsplit (decide (x30 = target4)) (fun hb32 => ?_) (fun hb32 => ?_)
      · rw [if_pos (of_decide_eq_true hb32)] at h
        refine WL_skip (gdN (b := (decide (x30 = target4))) 42 rfl rfl hb32) rfl ?_
        refine WL_skip (gdN (b := (decide (x30 = target4))) 42 rfl rfl hb32) rfl ?_
        refine WL_skip (gdN (b := (decide (x30 = target4))) 42 rfl rfl hb32) rfl ?_
        refine WL_skip (gdN (b := (decide (x30 = target4))) 42 rfl rfl hb32) rfl ?_
        refine WL_skip (gdN (b := (decide (x30 = target4))) 42 rfl rfl hb32) rfl ?_
        refine WL_skip (gdN (b := (decide (x30 = target4))) 42 rfl rfl hb32) rfl ?_
        refine WL_skip (gdU 48 rfl rfl) rfl ?_
        refine WL_skip (gdU 48 rfl rfl) rfl ?_
        refine WL_skip (gdN (b := (decide (x30 = target4))) 42 rfl rfl hb32) rfl ?_
        refine WL_val (gdY (b := (decide (i10 < (x_n2 : Int)))) 35 rfl rfl hb25) ((o_pickT (v := .bool true) rfl hb32 rfl) _) rfl ?_
        refine WL_val gd0 ((o_pickT (v := .bool true) rfl hb25 rfl) _) rfl ?_
        refine WL_val gd0 ((o_assign (v := .int .i64 i10) rfl) _) rfl ?_
        refine WL_val gd0 ((o_assign (v := .bool true) rfl) _) rfl ?_
        refine WL_nil ?_
        refine nrm ?_
        refine WC_ret ?_
        refine rtE ?_
        exact gv2 rfl rfl rfl h
      · rw [if_neg (of_decide_eq_false hb32)] at h
        refine WL_val (gdY (b := (decide (x30 = target4))) 42 rfl rfl hb32) ((o_move (v := .slice x_a1 x_n2 x_c3) (by exact e0_6)) _) rfl ?_
        refine WL_val (gdY (b := (decide (x30 = target4))) 42 rfl rfl hb32) ((o_move (v := .int .i64 i10) (by exact e7_9)) _) rfl ?_
        obtain ⟨l33, u34, h⟩ := h
        refine WL_val (gdY (b := (decide (x30 = target4))) 42 rfl rfl hb32) ((o_indexAddr1 Try.underlying23 Try.sizeOf3 (by exact (congrArg (fun z => Value.slice z x_n2 x_c3) q29)) rfl l33 u34) _) rfl ?_
        obtain ⟨x35, hc36, h⟩ := h
        refine WL_val (gdY (b := (decide (x30 = target4))) 42 rfl rfl hb32) (o_load Try.isAgg3 rfl hc36) rfl ?_
        refine WL_call (gdY (b := (decide (x30 = target4))) 42 rfl rfl hb32) (o_call Try.call50 (argCons rfl argNil) _) rfl (h.mono ?_)
        rintro _ w37 ⟨x38, rfl, h⟩
        refine WL_val (gdY (b := (decide (x30 = target4))) 42 rfl rfl hb32) ((o_move (v := .bool x38) rfl) _) rfl ?_
        refine bsplit x38 (fun hb39 => ?_) (fun hb39 => ?_)
        · rw [if_pos hb39] at h
          refine WL_val (gdY (b := x38) 48 rfl rfl hb39) ((o_move (v := .int .i64 target4) (by exact e1_7)) _) rfl ?_
          refine WL_call (gdY (b := x38) 48 rfl rfl hb39) (o_call Try.call50 (argCons rfl argNil) _) rfl (h.mono ?_)
          rintro _ w40 ⟨x41, rfl, h⟩
          refine WL_val (gdY (b := (decide (x30 = target4))) 42 rfl rfl hb32) ((o_pickT (v := .bool x41) rfl hb39 rfl) _) rfl ?_
          refine WL_val (gdY (b := (decide (i10 < (x_n2 : Int)))) 35 rfl rfl hb25) ((o_pickF (v := .bool x41) rfl hb32 rfl) _) rfl ?_
          refine WL_val gd0 ((o_pickT (v := .bool x41) rfl hb25 rfl) _) rfl ?_
          refine WL_val gd0 ((o_assign (v := .int .i64 i10) rfl) _) rfl ?_
          refine WL_val gd0 ((o_assign (v := .bool x41) rfl) _) rfl ?_
          refine WL_nil ?_
          refine nrm ?_
          refine WC_ret ?_
          refine rtE ?_
          exact gv2 rfl rfl rfl h
        · rw [if_neg (neT hb39)] at h
          refine WL_skip (gdN (b := x38) 48 rfl rfl hb39) rfl ?_
          refine WL_skip (gdN (b := x38) 48 rfl rfl hb39) rfl ?_
          refine WL_val (gdY (b := (decide (x30 = target4))) 42 rfl rfl hb32) ((o_pickF (v := .bool false) rfl hb39 rfl) _) rfl ?_
          refine WL_val (gdY (b := (decide (i10 < (x_n2 : Int)))) 35 rfl rfl hb25) ((o_pickF (v := .bool false) rfl hb32 rfl) _) rfl ?_
          refine WL_val gd0 ((o_pickT (v := .bool false) rfl hb25 rfl) _) rfl ?_
          refine WL_val gd0 ((o_assign (v := .int .i64 i10) rfl) _) rfl ?_
          refine WL_val gd0 ((o_assign (v := .bool false) rfl) _) rfl ?_
          refine WL_nil ?_
          refine nrm ?_
          refine WC_ret ?_
          refine rtE ?_
          exact gv2 rfl rfl rfl h
    · rw [if_neg (of_decide_eq_false hb25)] at h
      refine WL_skip (gdN (b := (decide (i10 < (x_n2 : Int)))) 35 rfl rfl hb25) rfl ?_
      refine WL_skip (gdN (b := (decide (i10 < (x_n2 : Int)))) 35 rfl rfl hb25) rfl ?_
      refine WL_skip (gdN (b := (decide (i10 < (x_n2 : Int)))) 35 rfl rfl hb25) rfl ?_
      refine WL_skip (gdN (b := (decide (i10 < (x_n2 : Int)))) 35 rfl rfl hb25) rfl ?_
      refine WL_skip (gdN (b := (decide (i10 < (x_n2 : Int)))) 35 rfl rfl hb25) rfl ?_
      refine WL_skip (gdN (b := (decide (i10 < (x_n2 : Int)))) 35 rfl rfl hb25) rfl ?_
      refine WL_skip (gdN (b := (decide (i10 < (x_n2 : Int)))) 35 rfl rfl hb25) rfl ?_
      refine WL_skip (gdU 42 rfl rfl) rfl ?_
      refine WL_skip (gdU 42 rfl rfl) rfl ?_
      refine WL_skip (gdU 42 rfl rfl) rfl ?_
      refine WL_skip (gdU 42 rfl rfl) rfl ?_
      refine WL_skip (gdU 42 rfl rfl) rfl ?_
      refine WL_skip (gdU 42 rfl rfl) rfl ?_
      refine WL_skip (gdU 48 rfl rfl) rfl ?_
      refine WL_skip (gdU 48 rfl rfl) rfl ?_
      refine WL_skip (gdU 42 rfl rfl) rfl ?_
      refine WL_skip (gdN (b := (decide (i10 < (x_n2 : Int)))) 35 rfl rfl hb25) rfl ?_
      refine WL_val gd0 ((o_pickF (v := .bool false) rfl hb25 rfl) _) rfl ?_
      refine WL_val gd0 ((o_assign (v := .int .i64 i10) rfl) _) rfl ?_
      refine WL_val gd0 ((o_assign (v := .bool false) rfl) _) rfl ?_
      refine WL_nil ?_
      refine nrm ?_
      refine WC_ret ?_
      refine rtE ?_
      exact gv2 rfl rfl rfl h

/-- cmp.Less int  -/
def F49 (x1 : Int) (y2 : Int) (w3 : World) (k : Value → World → Prop) : Prop :=
  Does Try.prog 51 #[.int .i64 x1] w3 (fun v w4 => ∃ (x5 : Bool), v = .bool x5 ∧ if x5 = true then
  Does Try.prog 51 #[.int .i64 y2] w4 (fun v w7 => ∃ (x8 : Bool), v = .bool x8 ∧ if (!x8) = true then
    k (.bool true) w7
  else
    k (.bool (decide (x1 < y2))) w7)
else
  k (.bool (decide (x1 < y2))) w4)
set_option maxRecDepth 100000 in
set_option maxHeartbeats 2000000 in
theorem w49 (x1 : Int) (y2 : Int) (w3 : World) (k : Value → World → Prop) (h : F49 x1 y2 w3 k) : Does Try.prog 49 #[.int .i64 x1, .int .i64 y2] w3 k := by
  refine enter 17 Try.func49 rfl rfl rfl ?_
  intro ρ hρ
  have e0 := hρ 0 _ rfl
  have e1 := hρ 1 _ rfl
  unfold F49 at h
  refine WC_seq ?_
  refine WC_region ?_
  refine WL_val gd0 ((o_assign (v := .bool false) rfl) _) rfl ?_
  refine WL_nil ?_
  refine nrm ?_
  refine WC_seq ?_
  refine WC_region ?_
  refine WL_val gd0 ((o_move (v := .int .i64 x1) (by exact e0)) _) rfl ?_
  refine WL_call gd0 (o_call Try.call51 (argCons rfl argNil) _) rfl (h.mono ?_)
  rintro _ w4 ⟨x5, rfl, h⟩
  refine WL_val gd0 ((o_move (v := .bool x5) rfl) _) rfl ?_
  refine bsplit x5 (fun hb6 => ?_) (fun hb6 => ?_)
  · rw [if_pos hb6] at h
    refine WL_val (gdY (b := x5) 7 rfl rfl hb6) ((o_move (v := .int .i64 y2) (by exact e1)) _) rfl ?_
    refine WL_call (gdY (b := x5) 7 rfl rfl hb6) (o_call Try.call51 (argCons rfl argNil) _) rfl (h.mono ?_)
    rintro _ w7 ⟨x8, rfl, h⟩
    refine WL_val (gdY (b := x5) 7 rfl rfl hb6) ((o_not rfl) _) rfl ?_
    refine WL_val gd0 ((o_pickT (v := .bool (!x8)) rfl hb6 rfl) _) rfl ?_
    refine WL_val gd0 ((o_move (v := .bool (!x8)) rfl) _) rfl ?_
    refine bsplit (!x8) (fun hb9 => ?_) (fun hb9 => ?_)
    · rw [if_pos hb9] at h
      refine WL_skip (gdN (b := (!x8)) 12 rfl rfl hb9) rfl ?_
      refine WL_skip (gdN (b := (!x8)) 12 rfl rfl hb9) rfl ?_
      refine WL_skip (gdN (b := (!x8)) 12 rfl rfl hb9) rfl ?_
      refine WL_val gd0 ((o_pickT (v := .bool true) rfl hb9 rfl) _) rfl ?_
      refine WL_val gd0 ((o_assign (v := .bool true) rfl) _) rfl ?_
      refine WL_nil ?_
      refine nrm ?_
      refine WC_ret ?_
      refine rtE ?_
      exact gv1 rfl rfl h
    · rw [if_neg (neT hb9)] at h
      refine WL_val (gdY (b := (!x8)) 12 rfl rfl hb9) ((o_move (v := .int .i64 x1) (by exact e0)) _) rfl ?_
      refine WL_val (gdY (b := (!x8)) 12 rfl rfl hb9) ((o_move (v := .int .i64 y2) (by exact e1)) _) rfl ?_
      refine WL_val (gdY (b := (!x8)) 12 rfl rfl hb9) ((o_lss rfl rfl) _) rfl ?_
      refine WL_val gd0 ((o_pickF (v := .bool (decide (x1 < y2))) rfl hb9 rfl) _) rfl ?_
      refine WL_val gd0 ((o_assign (v := .bool (decide (x1 < y2))) rfl) _) rfl ?_
      refine WL_nil ?_
      refine nrm ?_
      refine WC_ret ?_
      refine rtE ?_
      exact gv1 rfl rfl h
  · rw [if_neg (neT hb6)] at h
    refine WL_skip (gdN (b := x5) 7 rfl rfl hb6) rfl ?_
    refine WL_skip (gdN (b := x5) 7 rfl rfl hb6) rfl ?_
    refine WL_skip (gdN (b := x5) 7 rfl rfl hb6) rfl ?_
    refine WL_val gd0 ((o_pickF (v := .bool false) rfl hb6 rfl) _) rfl ?_
    refine WL_val gd0 ((o_move (v := .bool false) rfl) _) rfl ?_
    refine WL_val (gdY (b := false) 12 rfl rfl rfl) ((o_move (v := .int .i64 x1) (by exact e0)) _) rfl ?_
    refine WL_val (gdY (b := false) 12 rfl rfl rfl) ((o_move (v := .int .i64 y2) (by exact e1)) _) rfl ?_
    refine WL_val (gdY (b := false) 12 rfl rfl rfl) ((o_lss rfl rfl) _) rfl ?_
    refine WL_val gd0 ((o_pickF (v := .bool (decide (x1 < y2))) rfl rfl rfl) _) rfl ?_
    refine WL_val gd0 ((o_assign (v := .bool (decide (x1 < y2))) rfl) _) rfl ?_
    refine WL_nil ?_
    refine nrm ?_
    refine WC_ret ?_
    refine rtE ?_
    exact gv1 rfl rfl h

/-- slices.isNaN int  -/
def F50 (x1 : Int) (w2 : World) (k : Value → World → Prop) : Prop :=
  k (.bool (decide (x1 ≠ x1))) w2
set_option maxRecDepth 100000 in
set_option maxHeartbeats 2000000 in
theorem w50 (x1 : Int) (w2 : World) (k : Value → World → Prop) (h : F50 x1 w2 k) : Does Try.prog 50 #[.int .i64 x1] w2 k := by
  refine enter 6 Try.func50 rfl rfl rfl ?_
  intro ρ hρ
  have e0 := hρ 0 _ rfl
  unfold F50 at h
  refine WC_seq ?_
  refine WC_region ?_
  refine WL_val gd0 ((o_assign (v := .bool false) rfl) _) rfl ?_
  refine WL_nil ?_
  refine nrm ?_
  refine WC_seq ?_
  refine WC_region ?_
  refine WL_val gd0 ((o_move (v := .int .i64 x1) (by exact e0)) _) rfl ?_
  refine WL_val gd0 ((o_move (v := .int .i64 x1) (by exact e0)) _) rfl ?_
  refine WL_val gd0 ((o_neq rfl rfl) _) rfl ?_
  refine WL_val gd0 ((o_assign (v := .bool (decide (x1 ≠ x1))) rfl) _) rfl ?_
  refine WL_nil ?_
  refine nrm ?_
  refine WC_ret ?_
  refine rtE ?_
  exact gv1 rfl rfl h

/-- cmp.isNaN int  -/
def F51 (x1 : Int) (w2 : World) (k : Value → World → Prop) : Prop :=
  k (.bool (decide (x1 ≠ x1))) w2
set_option maxRecDepth 100000 in
set_option maxHeartbeats 2000000 in
theorem w51 (x1 : Int) (w2 : World) (k : Value → World → Prop) (h : F51 x1 w2 k) : Does Try.prog 51 #[.int .i64 x1] w2 k := by
  refine enter 6 Try.func51 rfl rfl rfl ?_
  intro ρ hρ
  have e0 := hρ 0 _ rfl
  unfold F51 at h
  refine WC_seq ?_
  refine WC_region ?_
  refine WL_val gd0 ((o_assign (v := .bool false) rfl) _) rfl ?_
  refine WL_nil ?_
  refine nrm ?_
  refine WC_seq ?_
  refine WC_region ?_
  refine WL_val gd0 ((o_move (v := .int .i64 x1) (by exact e0)) _) rfl ?_
  refine WL_val gd0 ((o_move (v := .int .i64 x1) (by exact e0)) _) rfl ?_
  refine WL_val gd0 ((o_neq rfl rfl) _) rfl ?_
  refine WL_val gd0 ((o_assign (v := .bool (decide (x1 ≠ x1))) rfl) _) rfl ?_
  refine WL_nil ?_
  refine nrm ?_
  refine WC_ret ?_
  refine rtE ?_
  exact gv1 rfl rfl h


end Go.Proofs.Ytcdnljibefpchaa
