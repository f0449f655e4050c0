/-
  The forms of the functions, and their walks: written by a program of this claim (gen.py) off the elaborated translation.
-/
import Derived.Test.YthgmcidaphbibaaProg
import Derived.Test.YthgmcidaphbibaaBase
import Derived.KernelRfl
namespace Go.Proofs.Ythgmcidaphbibaa
open Go Go.Sh Go.Proofs
set_option linter.unusedVariables false
theorem Try.mixed : Try.prog.follows .mixedOrders = true := by kernel_rfl
def F3_b2 (l_n3 : Nat) (l_a2 : Option Addr) (h7 : Option Addr) (p14 : Addr) (i32 : Int) (w33 : World) (k : Value → World → Prop) (nx33 : Int → World → Prop) : Prop :=
  if i32 < (l_n3 : Int) then
  ∃ (p38 : Addr), l_a2 = some p38 ∧ (0 : Int) ≤ i32 ∧ i32 < (l_n3 : Int) ∧ ∃ (x40 : Bool), w33.cell? (p38.add (i32.toNat * 2)) = some (.bool x40) ∧ if x40 = true then
    (0 : Int) ≤ i32 ∧ i32 < (l_n3 : Int) ∧ ∃ (x45 : Int), w33.drew.cell? ((p38.add (i32.toNat * 2)).add 1) = some (.int .i64 x45) ∧ (0 : Int) ≤ i32 ∧ i32 < (l_n3 : Int) ∧ ∃ (x49 : Int), w33.drew.cell? ((p38.add (i32.toNat * 2)).add 1) = some (.int .i64 x49) ∧ Does Try.prog 10 #[.pointer h7, .int .i64 x45] w33.drew (fun v w51 => ∃ (x52 : Bool), v = .bool x52 ∧ w51.cell? ((p38.add (i32.toNat * 2)).add 1) = some (.int .i64 x49) ∧ Does Try.prog 11 #[.pointer (some p14), .int .i64 x49] w51 (fun v w54 => ∃ (x55 : Bool), v = .bool x55 ∧ if (!(x52 == x55)) = true then
      k (.bool false) w54
    else
      nx33 (IntKind.i64.wrap (i32 + 1)) w54))
  else
    (0 : Int) ≤ i32 ∧ i32 < (l_n3 : Int) ∧ ∃ (x59 : Int), w33.cell? ((p38.add (i32.toNat * 2)).add 1) = some (.int .i64 x59) ∧ Does Try.prog 12 #[.pointer h7, .int .i64 x59] w33 (fun v w61 => ∃ (r62 : Int) (r63 : Bool), v = .tuple #[.int .i64 r62, .bool r63] ∧ (0 : Int) ≤ i32 ∧ i32 < (l_n3 : Int) ∧ ∃ (x66 : Int), w61.cell? ((p38.add (i32.toNat * 2)).add 1) = some (.int .i64 x66) ∧ Does Try.prog 13 #[.pointer (some p14), .int .i64 x66] w61 (fun v w68 => ∃ (r69 : Int) (r70 : Bool), v = .tuple #[.int .i64 r69, .bool r70] ∧ if r62 ≠ r69 then
      k (.bool false) w68
    else
      if (!(r63 == r70)) = true then
        k (.bool false) w68
      else
        ∃ (x73 x74 : Int) (x_a75 : Option Addr) (x_n76 x_c77 : Nat), Cells w68 p14 0 [.int .i64 x73, .int .i64 x74, .slice x_a75 x_n76 x_c77] ∧ Does Try.prog 14 #[.pointer h7, .agg #[.int .i64 x73, .int .i64 x74, .slice x_a75 x_n76 x_c77]] w68 (fun v w79 => ∃ (x80 : Bool), v = .bool x80 ∧ if (!x80) = true then
          k (.bool false) w79
        else
          nx33 (IntKind.i64.wrap (i32 + 1)) w79)))
else
  ∃ (x82 x83 : Int) (x_a84 : Option Addr) (x_n85 x_c86 : Nat), Cells w33 p14 0 [.int .i64 x82, .int .i64 x83, .slice x_a84 x_n85 x_c86] ∧ Does Try.prog 14 #[.pointer h7, .agg #[.int .i64 x82, .int .i64 x83, .slice x_a84 x_n85 x_c86]] w33 (fun v w88 => ∃ (x89 : Bool), v = .bool x89 ∧ if x89 = true then
    Does Try.prog 9 #[] w88 (fun v w91 => ∃ (x92 : Bool), v = .bool x92 ∧ k (.bool x92) w91)
  else
    k (.bool false) w88)
def F3_j1 (h7 : Option Addr) (l_n3 : Nat) (l_a2 : Option Addr) (p14 : Addr) (t22 : Bool) (w23 : World) (k : Value → World → Prop) : Prop :=
  if t22 = true then
  if (!(h7).isNone) = true then
    Does Try.prog 9 #[] w23 (fun v w26 => ∃ (x27 : Bool), v = .bool x27 ∧ k (.bool x27) w26)
  else
    k (.bool false) w23
else
  LoopP (fun (s : Int) w' nx' => F3_b2 l_n3 l_a2 h7 p14 s w' k (fun x0 w => nx' x0 w)) 0 w23
/-- spacecraft spacecraftlaw09.HistoryPlays -/
def F3 (most1 : Int) (l_a2 : Option Addr) (l_n3 : Nat) (l_c4 : Nat) (w5 : World) (k : Value → World → Prop) : Prop :=
  Does Try.prog 7 #[.int .i64 most1] w5 (fun v w6 => ∃ (h7 : Option Addr), v = .pointer h7 ∧ Does Try.prog 8 #[.int .i64 most1] w6 (fun v w8 => ∃ (x9 x10 : Int) (x_a11 : Option Addr) (x_n12 x_c13 : Nat), v = .agg #[.int .i64 x9, .int .i64 x10, .slice x_a11 x_n12 x_c13] ∧ New w8 27 [.int .i64 0, .int .i64 0, .slice none 0 0] (fun p14 w15 => PutAll w15 p14 [.int .i64 x9, .int .i64 x10, .slice x_a11 x_n12 x_c13] (fun w16 => if 600 < (l_n3 : Int) then
  F3_j1 h7 l_n3 l_a2 p14 true w16 k
else
  F3_j1 h7 l_n3 l_a2 p14 ((h7).isNone) w16 k))))
set_option maxRecDepth 100000 in
set_option maxHeartbeats 2000000 in
theorem w3 (most1 : Int) (l_a2 : Option Addr) (l_n3 : Nat) (l_c4 : Nat) (w5 : World) (k : Value → World → Prop) (h : F3 most1 l_a2 l_n3 l_c4 w5 k) : Does Try.prog 3 #[.int .i64 most1, .slice l_a2 l_n3 l_c4] w5 k := by
  refine enter 92 Try.func3 rfl rfl rfl ?_
  intro ρ hρ
  have e0 := hρ 0 _ rfl
  have e1 := hρ 1 _ rfl
  unfold F3 at h
  refine WC_seq ?_
  refine WC_region ?_
  refine WL_val gd0 ((o_assign (v := .bool false) rfl) _) rfl ?_
  refine WL_nil ?_
  refine nrm ?_
  refine WC_seq ?_
  refine WC_region ?_
  refine WL_val gd0 ((o_move (v := .int .i64 most1) (by exact e0)) _) rfl ?_
  refine WL_call gd0 (o_call Try.call7 (argCons rfl argNil) _) rfl (h.mono ?_)
  rintro _ w6 ⟨h7, rfl, h⟩
  refine WL_val gd0 ((o_assign (v := .pointer h7) rfl) _) rfl ?_
  refine WL_nil ?_
  refine nrm ?_
  refine WC_seq ?_
  refine WC_region ?_
  refine WL_val gd0 ((o_move (v := .int .i64 most1) (by exact e0)) _) rfl ?_
  refine WL_call gd0 (o_call Try.call8 (argCons rfl argNil) _) rfl (h.mono ?_)
  rintro _ w8 ⟨x9, x10, x_a11, x_n12, x_c13, rfl, h⟩
  have h := New.out h
  refine WL_val gd0 (o_alloc (z := .agg #[.int .i64 0, .int .i64 0, .slice none 0 0]) (cs := [.int .i64 0, .int .i64 0, .slice none 0 0]) Try.zeroValue27 rfl) rfl ?_
  generalize hp14 : fresh w8 = p14 at h ⊢
  generalize hw15 : push w8 27 [.int .i64 0, .int .i64 0, .slice none 0 0] = w15 at h ⊢
  try dsimp only at h
  obtain ⟨c17, h⟩ := h
  refine WL_act gd0 (o_storeAgg (vs := [.int .i64 x9, .int .i64 x10, .slice x_a11 x_n12 x_c13]) Try.sizeOf27 rfl rfl rfl c17) ?_
  generalize hw16 : setAll w15 p14 0 [.int .i64 x9, .int .i64 x10, .slice x_a11 x_n12 x_c13] = w16 at h ⊢
  try dsimp only at h
  refine WL_nil ?_
  refine nrm ?_
  refine WC_seq ?_
  refine WC_cut (fun ρ w' => ∃ (t22 : Bool), ρ 22 = .bool t22 ∧ ρ 1 = .slice l_a2 l_n3 l_c4 ∧ ρ 5 = .pointer h7 ∧ ρ 6 = .pointer (some p14) ∧ F3_j1 h7 l_n3 l_a2 p14 t22 w' k) ?_ ?_
  · refine WC_region ?_
    refine WL_val gd0 ((o_move (v := .slice l_a2 l_n3 l_c4) (by exact e1)) _) rfl ?_
    refine WL_val gd0 ((o_len Try.underlying22 rfl) _) rfl ?_
    refine WL_val gd0 ((o_gtr rfl rfl) _) rfl ?_
    refine WL_val gd0 ((o_move (v := .bool (decide (600 < (l_n3 : Int)))) rfl) _) rfl ?_
    refine bsplit (decide (600 < (l_n3 : Int))) (fun hb93 => ?_) (fun hb93 => ?_)
    · rw [if_pos (of_decide_eq_true hb93)] at h
      refine WL_skip (gdN (b := (decide (600 < (l_n3 : Int)))) 19 rfl rfl hb93) rfl ?_
      refine WL_skip (gdN (b := (decide (600 < (l_n3 : Int)))) 19 rfl rfl hb93) rfl ?_
      refine WL_val gd0 ((o_pickT (v := .bool true) rfl hb93 rfl) _) rfl ?_
      refine WL_nil ?_
      refine nrm ?_
      exact ⟨_, rfl, e1, rfl, rfl, h⟩
    · rw [if_neg (of_decide_eq_false hb93)] at h
      refine WL_val (gdY (b := (decide (600 < (l_n3 : Int)))) 19 rfl rfl hb93) ((o_move (v := .pointer h7) rfl) _) rfl ?_
      refine WL_val (gdY (b := (decide (600 < (l_n3 : Int)))) 19 rfl rfl hb93) ((o_eqlPtrNil Try.underlying23 rfl rfl) _) rfl ?_
      refine WL_val gd0 ((o_pickF (v := .bool ((h7).isNone)) rfl hb93 rfl) _) rfl ?_
      refine WL_nil ?_
      refine nrm ?_
      exact ⟨_, rfl, e1, rfl, rfl, h⟩
  · rintro ρ w23 ⟨t22, e22_21, e1_18, e5_19, e6_20, h⟩
    unfold F3_j1 at h
    refine WC_cond (t := t22) (by exact e22_21) (fun hb24 => ?_) (fun hb24 => ?_)
    · rw [if_pos hb24] at h
      refine WC_seq ?_
      refine WC_region ?_
      refine WL_val gd0 ((o_move (v := .pointer h7) (by exact e5_19)) _) rfl ?_
      refine WL_val gd0 ((o_neqPtrNil Try.underlying23 rfl rfl) _) rfl ?_
      refine WL_val gd0 ((o_move (v := .bool (!(h7).isNone)) rfl) _) rfl ?_
      refine bsplit (!(h7).isNone) (fun hb25 => ?_) (fun hb25 => ?_)
      · rw [if_pos hb25] at h
        refine WL_call (gdY (b := (!(h7).isNone)) 25 rfl rfl hb25) (o_call Try.call9 argNil _) rfl (h.mono ?_)
        rintro _ w26 ⟨x27, rfl, h⟩
        refine WL_val gd0 ((o_pickT (v := .bool x27) rfl hb25 rfl) _) rfl ?_
        refine WL_val gd0 ((o_assign (v := .bool x27) rfl) _) rfl ?_
        refine WL_nil ?_
        refine nrm ?_
        refine WC_ret ?_
        refine rtT ?_
        refine rtE ?_
        exact gv1 rfl rfl h
      · rw [if_neg (neT hb25)] at h
        refine WL_skip (gdN (b := (!(h7).isNone)) 25 rfl rfl hb25) rfl ?_
        refine WL_val gd0 ((o_pickF (v := .bool false) rfl hb25 rfl) _) rfl ?_
        refine WL_val gd0 ((o_assign (v := .bool false) rfl) _) rfl ?_
        refine WL_nil ?_
        refine nrm ?_
        refine WC_ret ?_
        refine rtT ?_
        refine rtE ?_
        exact gv1 rfl rfl h
    · rw [if_neg (neT hb24)] at h
      refine WC_skip ?_
      refine nrm ?_
      refine WC_seq ?_
      refine WC_seq ?_
      refine WC_region ?_
      refine WL_val gd0 ((o_assign (v := .int .i64 0) rfl) _) rfl ?_
      refine WL_nil ?_
      refine nrm ?_
      refine WC_block ?_
      obtain ⟨J33, ⟨n33, h0⟩, hr33⟩ := h
      refine WC_loop (fun n ρ w' => ∃ (i32 : Int), ρ 7 = .int .i64 i32 ∧ ρ 1 = .slice l_a2 l_n3 l_c4 ∧ ρ 5 = .pointer h7 ∧ ρ 6 = .pointer (some p14) ∧ J33 n i32 w') ⟨n33, _, rfl, e1_18, e5_19, e6_20, h0⟩ ?_
      rintro n33 ρ w33 ⟨i32, e7_31, e1_28, e5_29, e6_30, h⟩
      have h : F3_b2 l_n3 l_a2 h7 p14 i32 w33 k (fun x0 w => ∃ m, m < n33 ∧ J33 m x0 w) := hr33 n33 i32 w33 h
      unfold F3_b2 at h
      refine WC_seq ?_
      refine WC_seq ?_
      refine WC_region ?_
      refine WL_val gd0 ((o_move (v := .int .i64 i32) (by exact e7_31)) _) rfl ?_
      refine WL_val gd0 ((o_move (v := .slice l_a2 l_n3 l_c4) (by exact e1_28)) _) rfl ?_
      refine WL_val gd0 ((o_len Try.underlying22 rfl) _) rfl ?_
      refine WL_val gd0 ((o_lss rfl rfl) _) rfl ?_
      refine WL_nil ?_
      refine nrm ?_
      refine WC_cond (t := (decide (i32 < (l_n3 : Int)))) rfl (fun hb35 => ?_) (fun hb35 => ?_)
      · rw [if_pos (of_decide_eq_true hb35)] at h
        refine WC_skip ?_
        refine nrm ?_
        refine WC_seq ?_
        refine WC_block ?_
        refine WC_seq ?_
        refine WC_seq ?_
        refine WC_region ?_
        refine WL_val gd0 ((o_move (v := .slice l_a2 l_n3 l_c4) (by exact e1_28)) _) rfl ?_
        refine WL_val gd0 ((o_move (v := .int .i64 i32) (by exact e7_31)) _) rfl ?_
        obtain ⟨p38, q39, h⟩ := h
        obtain ⟨l36, u37, h⟩ := h
        refine WL_val gd0 ((o_indexAddr Try.underlying22 Try.sizeOf31 (by exact (congrArg (fun z => Value.slice z l_n3 l_c4) q39)) rfl l36 u37) _) rfl ?_
        refine WL_val gd0 ((o_fieldAddr0 Try.underlying31 rfl Try.sizeOf4 rfl rfl rfl) _) rfl ?_
        obtain ⟨x40, hc41, h⟩ := h
        refine WL_val gd0 (o_load Try.isAgg4 rfl hc41) rfl ?_
        refine WL_nil ?_
        refine nrm ?_
        refine WC_cond (t := x40) rfl (fun hb42 => ?_) (fun hb42 => ?_)
        · rw [if_pos hb42] at h
          refine WC_seq ?_
          refine WC_seq ?_
          refine WC_draws [(0, true), (1, true), (2, true), (3, true), (4, true), (5, true), (7, true), (8, true), (9, true), (10, true), (11, true), (6, false), (12, false), (13, true)] Try.mixed (by kernel_rfl) ?_
          refine WQ_val rfl gd0 (o_move (v := .pointer h7) (by exact e5_29)) rfl ?_
          refine WQ_val rfl gd0 (o_move (v := .slice l_a2 l_n3 l_c4) (by exact e1_28)) rfl ?_
          refine WQ_val rfl gd0 (o_move (v := .int .i64 i32) (by exact e7_31)) rfl ?_
          obtain ⟨l43, u44, h⟩ := h
          refine WQ_val rfl gd0 (o_indexAddr Try.underlying22 Try.sizeOf31 (by exact (congrArg (fun z => Value.slice z l_n3 l_c4) q39)) rfl l43 u44) rfl ?_
          refine WQ_val rfl gd0 (o_fieldAddr 1 Try.underlying31 rfl Try.sizeOf3 rfl rfl rfl) rfl ?_
          obtain ⟨x45, hc46, h⟩ := h
          refine WQ_look (fun w => w.cell? ((p38.add (i32.toNat * 2)).add 1) = some (.int .i64 x45)) rfl gd0 (fun w hc => (o_load Try.isAgg3 rfl hc)) hc46 rfl ?_
          refine WQ_val rfl gd0 (o_move (v := .slice l_a2 l_n3 l_c4) (by exact e1_28)) rfl ?_
          refine WQ_val rfl gd0 (o_move (v := .int .i64 i32) (by exact e7_31)) rfl ?_
          obtain ⟨l47, u48, h⟩ := h
          refine WQ_val rfl gd0 (o_indexAddr Try.underlying22 Try.sizeOf31 (by exact (congrArg (fun z => Value.slice z l_n3 l_c4) q39)) rfl l47 u48) rfl ?_
          refine WQ_val rfl gd0 (o_fieldAddr 1 Try.underlying31 rfl Try.sizeOf3 rfl rfl rfl) rfl ?_
          obtain ⟨x49, hc50, h⟩ := h
          refine WQ_look (fun w => w.cell? ((p38.add (i32.toNat * 2)).add 1) = some (.int .i64 x49)) rfl gd0 (fun w hc => (o_load Try.isAgg3 rfl hc)) hc50 rfl ?_
          refine WQ_call rfl gd0 (o_call Try.call10 (argCons rfl (argCons rfl argNil)) _) rfl (h.mono ?_)
          rintro _ w51 ⟨x52, rfl, hh53, h⟩
          refine ⟨⟨⟨trivial, depT (by kernel_rfl)⟩, fun _ => hh53⟩, ?_⟩
          refine WQ_call rfl gd0 (o_call Try.call11 (argCons (by exact e6_30) (argCons rfl argNil)) _) rfl (h.mono ?_)
          rintro _ w54 ⟨x55, rfl, h⟩
          refine ⟨⟨⟨trivial, depT (by kernel_rfl)⟩, depT (by kernel_rfl)⟩, ?_⟩
          refine WQ_val rfl gd0 (o_neqBool Try.underlying4 rfl rfl) rfl ?_
          refine WQ_nil ?_
          refine nrm ?_
          refine WC_cond (t := (!(x52 == x55))) rfl (fun hb56 => ?_) (fun hb56 => ?_)
          · rw [if_pos hb56] at h
            refine WC_seq ?_
            refine WC_region ?_
            refine WL_val gd0 ((o_assign (v := .bool false) rfl) _) rfl ?_
            refine WL_nil ?_
            refine nrm ?_
            refine WC_ret ?_
            refine rtT ?_
            refine rtT ?_
            refine rtB ?_
            refine rtT ?_
            refine rtT ?_
            refine rtB ?_
            refine rtT ?_
            refine rtE ?_
            exact gv1 rfl rfl h
          · rw [if_neg (neT hb56)] at h
            refine WC_skip ?_
            refine nrm ?_
            refine WC_exit ?_
            refine exT ?_
            refine exB ?_
            refine nrm ?_
            refine WC_region ?_
            refine WL_val gd0 ((o_move (v := .int .i64 i32) (by exact e7_31)) _) rfl ?_
            refine WL_val gd0 ((o_add rfl rfl) _) rfl ?_
            refine WL_val gd0 ((o_assign (v := .int .i64 (IntKind.i64.wrap (i32 + 1))) rfl) _) rfl ?_
            refine WL_nil ?_
            refine nrm ?_
            obtain ⟨m34, hm34, h⟩ := h
            exact ⟨m34, hm34, _, rfl, e1_28, e5_29, e6_30, h⟩
        · rw [if_neg (neT hb42)] at h
          refine WC_skip ?_
          refine nrm ?_
          refine WC_seq ?_
          refine WC_region ?_
          refine WL_val gd0 ((o_move (v := .pointer h7) (by exact e5_29)) _) rfl ?_
          refine WL_val gd0 ((o_move (v := .slice l_a2 l_n3 l_c4) (by exact e1_28)) _) rfl ?_
          refine WL_val gd0 ((o_move (v := .int .i64 i32) (by exact e7_31)) _) rfl ?_
          obtain ⟨l57, u58, h⟩ := h
          refine WL_val gd0 ((o_indexAddr Try.underlying22 Try.sizeOf31 (by exact (congrArg (fun z => Value.slice z l_n3 l_c4) q39)) rfl l57 u58) _) rfl ?_
          refine WL_val gd0 ((o_fieldAddr 1 Try.underlying31 rfl Try.sizeOf3 rfl rfl rfl) _) rfl ?_
          obtain ⟨x59, hc60, h⟩ := h
          refine WL_val gd0 (o_load Try.isAgg3 rfl hc60) rfl ?_
          refine WL_call gd0 (o_call Try.call12 (argCons rfl (argCons rfl argNil)) _) rfl (h.mono ?_)
          rintro _ w61 ⟨r62, r63, rfl, h⟩
          refine WL_val gd0 ((o_move (v := .tuple #[.int .i64 r62, .bool r63]) rfl) _) rfl ?_
          refine WL_val gd0 ((o_extract (vs := [.int .i64 r62, .bool r63]) (r := .int .i64 r62) rfl rfl) _) rfl ?_
          refine WL_val gd0 ((o_extract (vs := [.int .i64 r62, .bool r63]) (r := .bool r63) rfl rfl) _) rfl ?_
          refine WL_val gd0 ((o_assign (v := .int .i64 r62) rfl) _) rfl ?_
          refine WL_val gd0 ((o_assign (v := .bool r63) rfl) _) rfl ?_
          refine WL_nil ?_
          refine nrm ?_
          refine WC_seq ?_
          refine WC_region ?_
          refine WL_val gd0 ((o_move (v := .slice l_a2 l_n3 l_c4) (by exact e1_28)) _) rfl ?_
          refine WL_val gd0 ((o_move (v := .int .i64 i32) (by exact e7_31)) _) rfl ?_
          obtain ⟨l64, u65, h⟩ := h
          refine WL_val gd0 ((o_indexAddr Try.underlying22 Try.sizeOf31 (by exact (congrArg (fun z => Value.slice z l_n3 l_c4) q39)) rfl l64 u65) _) rfl ?_
          refine WL_val gd0 ((o_fieldAddr 1 Try.underlying31 rfl Try.sizeOf3 rfl rfl rfl) _) rfl ?_
          obtain ⟨x66, hc67, h⟩ := h
          refine WL_val gd0 (o_load Try.isAgg3 rfl hc67) rfl ?_
          refine WL_call gd0 (o_call Try.call13 (argCons (by exact e6_30) (argCons rfl argNil)) _) rfl (h.mono ?_)
          rintro _ w68 ⟨r69, r70, rfl, h⟩
          refine WL_val gd0 ((o_move (v := .tuple #[.int .i64 r69, .bool r70]) rfl) _) rfl ?_
          refine WL_val gd0 ((o_extract (vs := [.int .i64 r69, .bool r70]) (r := .int .i64 r69) rfl rfl) _) rfl ?_
          refine WL_val gd0 ((o_extract (vs := [.int .i64 r69, .bool r70]) (r := .bool r70) rfl rfl) _) rfl ?_
          refine WL_val gd0 ((o_assign (v := .int .i64 r69) rfl) _) rfl ?_
          refine WL_val gd0 ((o_assign (v := .bool r70) rfl) _) rfl ?_
          refine WL_nil ?_
          refine nrm ?_
          refine WC_seq ?_
          refine WC_region ?_
          refine WL_val gd0 ((o_move (v := .int .i64 r62) rfl) _) rfl ?_
          refine WL_val gd0 ((o_move (v := .int .i64 r69) rfl) _) rfl ?_
          refine WL_val gd0 ((o_neq rfl rfl) _) rfl ?_
          refine WL_val gd0 ((o_move (v := .bool (decide (r62 ≠ r69))) rfl) _) rfl ?_
          refine bsplit (decide (r62 ≠ r69)) (fun hb71 => ?_) (fun hb71 => ?_)
          · rw [if_pos (of_decide_eq_true hb71)] at h
            refine WL_skip (gdN (b := (decide (r62 ≠ r69))) 75 rfl rfl hb71) rfl ?_
            refine WL_skip (gdN (b := (decide (r62 ≠ r69))) 75 rfl rfl hb71) rfl ?_
            refine WL_skip (gdN (b := (decide (r62 ≠ r69))) 75 rfl rfl hb71) rfl ?_
            refine WL_val gd0 ((o_pickT (v := .bool true) rfl hb71 rfl) _) rfl ?_
            refine WL_val gd0 ((o_move (v := .bool true) rfl) _) rfl ?_
            refine WL_skip (gdN (b := true) 80 rfl rfl rfl) rfl ?_
            refine WL_skip (gdN (b := true) 80 rfl rfl rfl) rfl ?_
            refine WL_skip (gdN (b := true) 80 rfl rfl rfl) rfl ?_
            refine WL_skip (gdN (b := true) 80 rfl rfl rfl) rfl ?_
            refine WL_val gd0 ((o_pickT (v := .bool true) rfl rfl rfl) _) rfl ?_
            refine WL_nil ?_
            refine nrm ?_
            refine WC_cond (t := true) rfl (fun _ => ?_) (fun hx => by rw [(rfl : true = true)] at hx; cases hx)
            refine WC_seq ?_
            refine WC_region ?_
            refine WL_val gd0 ((o_assign (v := .bool false) rfl) _) rfl ?_
            refine WL_nil ?_
            refine nrm ?_
            refine WC_ret ?_
            refine rtB ?_
            refine rtT ?_
            refine rtT ?_
            refine rtB ?_
            refine rtT ?_
            refine rtE ?_
            exact gv1 rfl rfl h
          · rw [if_neg (of_decide_eq_false hb71)] at h
            refine WL_val (gdY (b := (decide (r62 ≠ r69))) 75 rfl rfl hb71) ((o_move (v := .bool r63) rfl) _) rfl ?_
            refine WL_val (gdY (b := (decide (r62 ≠ r69))) 75 rfl rfl hb71) ((o_move (v := .bool r70) rfl) _) rfl ?_
            refine WL_val (gdY (b := (decide (r62 ≠ r69))) 75 rfl rfl hb71) ((o_neqBool Try.underlying4 rfl rfl) _) rfl ?_
            refine WL_val gd0 ((o_pickF (v := .bool (!(r63 == r70))) rfl hb71 rfl) _) rfl ?_
            refine WL_val gd0 ((o_move (v := .bool (!(r63 == r70))) rfl) _) rfl ?_
            refine bsplit (!(r63 == r70)) (fun hb72 => ?_) (fun hb72 => ?_)
            · rw [if_pos hb72] at h
              refine WL_skip (gdN (b := (!(r63 == r70))) 80 rfl rfl hb72) rfl ?_
              refine WL_skip (gdN (b := (!(r63 == r70))) 80 rfl rfl hb72) rfl ?_
              refine WL_skip (gdN (b := (!(r63 == r70))) 80 rfl rfl hb72) rfl ?_
              refine WL_skip (gdN (b := (!(r63 == r70))) 80 rfl rfl hb72) rfl ?_
              refine WL_val gd0 ((o_pickT (v := .bool true) rfl hb72 rfl) _) rfl ?_
              refine WL_nil ?_
              refine nrm ?_
              refine WC_cond (t := true) rfl (fun _ => ?_) (fun hx => by rw [(rfl : true = true)] at hx; cases hx)
              refine WC_seq ?_
              refine WC_region ?_
              refine WL_val gd0 ((o_assign (v := .bool false) rfl) _) rfl ?_
              refine WL_nil ?_
              refine nrm ?_
              refine WC_ret ?_
              refine rtB ?_
              refine rtT ?_
              refine rtT ?_
              refine rtB ?_
              refine rtT ?_
              refine rtE ?_
              exact gv1 rfl rfl h
            · rw [if_neg (neT hb72)] at h
              refine WL_val (gdY (b := (!(r63 == r70))) 80 rfl rfl hb72) ((o_move (v := .pointer h7) (by exact e5_29)) _) rfl ?_
              obtain ⟨x73, x74, x_a75, x_n76, x_c77, hc78, h⟩ := h
              refine WL_val (gdY (b := (!(r63 == r70))) 80 rfl rfl hb72) (o_loadAgg (vs := [.int .i64 x73, .int .i64 x74, .slice x_a75 x_n76 x_c77]) Try.isAgg27 Try.sizeOf27 (by exact e6_30) hc78) rfl ?_
              refine WL_call (gdY (b := (!(r63 == r70))) 80 rfl rfl hb72) (o_call Try.call14 (argCons rfl (argCons rfl argNil)) _) rfl (h.mono ?_)
              rintro _ w79 ⟨x80, rfl, h⟩
              refine WL_val (gdY (b := (!(r63 == r70))) 80 rfl rfl hb72) ((o_not rfl) _) rfl ?_
              refine WL_val gd0 ((o_pickF (v := .bool (!x80)) rfl hb72 rfl) _) rfl ?_
              refine WL_nil ?_
              refine nrm ?_
              refine WC_cond (t := (!x80)) rfl (fun hb81 => ?_) (fun hb81 => ?_)
              · rw [if_pos hb81] at h
                refine WC_seq ?_
                refine WC_region ?_
                refine WL_val gd0 ((o_assign (v := .bool false) rfl) _) rfl ?_
                refine WL_nil ?_
                refine nrm ?_
                refine WC_ret ?_
                refine rtB ?_
                refine rtT ?_
                refine rtT ?_
                refine rtB ?_
                refine rtT ?_
                refine rtE ?_
                exact gv1 rfl rfl h
              · rw [if_neg (neT hb81)] at h
                refine WC_skip ?_
                refine nrmB ?_
                refine nrm ?_
                refine WC_region ?_
                refine WL_val gd0 ((o_move (v := .int .i64 i32) (by exact e7_31)) _) rfl ?_
                refine WL_val gd0 ((o_add rfl rfl) _) rfl ?_
                refine WL_val gd0 ((o_assign (v := .int .i64 (IntKind.i64.wrap (i32 + 1))) rfl) _) rfl ?_
                refine WL_nil ?_
                refine nrm ?_
                obtain ⟨m34, hm34, h⟩ := h
                exact ⟨m34, hm34, _, rfl, e1_28, e5_29, e6_30, h⟩
      · rw [if_neg (of_decide_eq_false hb35)] at h
        refine WC_exit ?_
        refine exT ?_
        refine exT ?_
        refine exB ?_
        refine nrm ?_
        refine WC_seq ?_
        refine WC_region ?_
        refine WL_val gd0 ((o_move (v := .pointer h7) (by exact e5_29)) _) rfl ?_
        obtain ⟨x82, x83, x_a84, x_n85, x_c86, hc87, h⟩ := h
        refine WL_val gd0 (o_loadAgg (vs := [.int .i64 x82, .int .i64 x83, .slice x_a84 x_n85 x_c86]) Try.isAgg27 Try.sizeOf27 (by exact e6_30) hc87) rfl ?_
        refine WL_call gd0 (o_call Try.call14 (argCons rfl (argCons rfl argNil)) _) rfl (h.mono ?_)
        rintro _ w88 ⟨x89, rfl, h⟩
        refine WL_val gd0 ((o_move (v := .bool x89) rfl) _) rfl ?_
        refine bsplit x89 (fun hb90 => ?_) (fun hb90 => ?_)
        · rw [if_pos hb90] at h
          refine WL_call (gdY (b := x89) 89 rfl rfl hb90) (o_call Try.call9 argNil _) rfl (h.mono ?_)
          rintro _ w91 ⟨x92, rfl, h⟩
          refine WL_val gd0 ((o_pickT (v := .bool x92) rfl hb90 rfl) _) rfl ?_
          refine WL_val gd0 ((o_assign (v := .bool x92) rfl) _) rfl ?_
          refine WL_nil ?_
          refine nrm ?_
          refine WC_ret ?_
          refine rtE ?_
          exact gv1 rfl rfl h
        · rw [if_neg (neT hb90)] at h
          refine WL_skip (gdN (b := x89) 89 rfl rfl hb90) rfl ?_
          refine WL_val gd0 ((o_pickF (v := .bool false) rfl hb90 rfl) _) rfl ?_
          refine WL_val gd0 ((o_assign (v := .bool false) rfl) _) rfl ?_
          refine WL_nil ?_
          refine nrm ?_
          refine WC_ret ?_
          refine rtE ?_
          exact gv1 rfl rfl h

def F4_b2 (l_n3 : Nat) (l_a2 : Option Addr) (h7 : Option Addr) (most1 : Int) (l_c4 : Nat) (out_a27 : Option Addr) (out_n28 : Nat) (out_c29 : Nat) (i31 : Int) (w32 : World) (nx32 : Option Addr → Nat → Nat → Int → World → Prop) (k : Value → World → Prop) : Prop :=
  if i31 < (l_n3 : Int) then
  ∃ (p37 : Addr), l_a2 = some p37 ∧ (0 : Int) ≤ i31 ∧ i31 < (l_n3 : Int) ∧ ∃ (x39 : Int), w32.cell? (p37.add i31.toNat) = some (.int .i64 x39) ∧ Does Try.prog 12 #[.pointer h7, .int .i64 x39] w32 (fun v w41 => ∃ (r42 : Int) (r43 : Bool), v = .tuple #[.int .i64 r42, .bool r43] ∧ if r43 = true then
    New w41 3 [.int .i64 r42] (fun p45 w46 => ∃ (b_a47 : Option Addr) (b_n48 b_c49 : Nat) (w50 : World), (Builtin.append_ #[25, 25] 25 #[.slice out_a27 out_n28 out_c29, .slice (some p45) 1 1]).run Try.prog w46 = .ok (.slice b_a47 b_n48 b_c49) w50 ∧ nx32 b_a47 b_n48 b_c49 (IntKind.i64.wrap (i31 + 1)) w50)
  else
    nx32 out_a27 out_n28 out_c29 (IntKind.i64.wrap (i31 + 1)) w41)
else
  (0 : Int) ≤ max 0 (IntKind.i64.wrap ((l_n3 : Int) - (min (max most1 0) 256))) ∧ max 0 (IntKind.i64.wrap ((l_n3 : Int) - (min (max most1 0) 256))) ≤ (l_c4 : Int) ∧ Does Try.prog 15 #[.slice out_a27 out_n28 out_c29, .slice l_a2 ((max 0 (IntKind.i64.wrap ((l_n3 : Int) - (min (max most1 0) 256)))).toNat) l_c4] w32.drew (fun v w54 => ∃ (x55 : Bool), v = .bool x55 ∧ if x55 = true then
    (0 : Int) ≤ max 0 (IntKind.i64.wrap ((l_n3 : Int) - (min (max most1 0) 256))) ∧ max 0 (IntKind.i64.wrap ((l_n3 : Int) - (min (max most1 0) 256))) ≤ (l_n3 : Int) ∧ Does Try.prog 16 #[.pointer h7] w54 (fun v w59 => ∃ (x_a60 : Option Addr) (x_n61 x_c62 : Nat), v = .slice x_a60 x_n61 x_c62 ∧ Does Try.prog 15 #[.slice x_a60 x_n61 x_c62, .slice (cutA l_a2 l_c4 ((max 0 (IntKind.i64.wrap ((l_n3 : Int) - (min (max most1 0) 256)))).toNat) 1) (l_n3 - (max 0 (IntKind.i64.wrap ((l_n3 : Int) - (min (max most1 0) 256)))).toNat) (l_c4 - (max 0 (IntKind.i64.wrap ((l_n3 : Int) - (min (max most1 0) 256)))).toNat)] w59 (fun v w63 => ∃ (x64 : Bool), v = .bool x64 ∧ if x64 = true then
      Does Try.prog 17 #[.pointer h7] w63 (fun v w66 => ∃ (x67 : Int), v = .int .i64 x67 ∧ if x67 = (max 0 (IntKind.i64.wrap ((l_n3 : Int) - (min (max most1 0) 256)))) then
        Does Try.prog 9 #[] w66 (fun v w69 => ∃ (x70 : Bool), v = .bool x70 ∧ k (.bool x70) w69)
      else
        k (.bool false) w66)
    else
      k (.bool false) w63))
  else
    k (.bool false) w54)
def F4_j1 (h7 : Option Addr) (l_n3 : Nat) (l_a2 : Option Addr) (most1 : Int) (l_c4 : Nat) (t12 : Bool) (w13 : World) (k : Value → World → Prop) : Prop :=
  if t12 = true then
  if (!(h7).isNone) = true then
    Does Try.prog 9 #[] w13 (fun v w16 => ∃ (x17 : Bool), v = .bool x17 ∧ k (.bool x17) w16)
  else
    k (.bool false) w13
else
  ∃ (b_a18 : Option Addr) (b_n19 b_c20 : Nat) (w21 : World), (Instr.makeSlice 25 (.int .i64 0) (.int .i64 (l_n3 : Int))).run Try.prog w13 = .ok (.slice b_a18 b_n19 b_c20) w21 ∧ LoopP (fun (s : Option Addr × Nat × Nat × Int) w' nx' => F4_b2 l_n3 l_a2 h7 most1 l_c4 (s.1) (s.2.1) (s.2.2.1) (s.2.2.2) w' (fun x0 x1 x2 x3 w => nx' (x0, x1, x2, x3) w) k) (b_a18, b_n19, b_c20, 0) w21
/-- spacecraft spacecraftlaw09.HistoryNewest -/
def F4 (most1 : Int) (l_a2 : Option Addr) (l_n3 : Nat) (l_c4 : Nat) (w5 : World) (k : Value → World → Prop) : Prop :=
  Does Try.prog 7 #[.int .i64 most1] w5 (fun v w6 => ∃ (h7 : Option Addr), v = .pointer h7 ∧ if 600 < (l_n3 : Int) then
  F4_j1 h7 l_n3 l_a2 most1 l_c4 true w6 k
else
  F4_j1 h7 l_n3 l_a2 most1 l_c4 ((h7).isNone) w6 k)
set_option maxRecDepth 100000 in
set_option maxHeartbeats 2000000 in
theorem w4 (most1 : Int) (l_a2 : Option Addr) (l_n3 : Nat) (l_c4 : Nat) (w5 : World) (k : Value → World → Prop) (h : F4 most1 l_a2 l_n3 l_c4 w5 k) : Does Try.prog 4 #[.int .i64 most1, .slice l_a2 l_n3 l_c4] w5 k := by
  refine enter 79 Try.func4 rfl rfl rfl ?_
  intro ρ hρ
  have e0 := hρ 0 _ rfl
  have e1 := hρ 1 _ rfl
  unfold F4 at h
  refine WC_seq ?_
  refine WC_region ?_
  refine WL_val gd0 ((o_assign (v := .bool false) rfl) _) rfl ?_
  refine WL_nil ?_
  refine nrm ?_
  refine WC_seq ?_
  refine WC_region ?_
  refine WL_val gd0 ((o_move (v := .int .i64 most1) (by exact e0)) _) rfl ?_
  refine WL_call gd0 (o_call Try.call7 (argCons rfl argNil) _) rfl (h.mono ?_)
  rintro _ w6 ⟨h7, rfl, h⟩
  refine WL_val gd0 ((o_assign (v := .pointer h7) rfl) _) rfl ?_
  refine WL_nil ?_
  refine nrm ?_
  refine WC_seq ?_
  refine WC_cut (fun ρ w' => ∃ (t12 : Bool), ρ 20 = .bool t12 ∧ ρ 0 = .int .i64 most1 ∧ ρ 1 = .slice l_a2 l_n3 l_c4 ∧ ρ 5 = .pointer h7 ∧ F4_j1 h7 l_n3 l_a2 most1 l_c4 t12 w' k) ?_ ?_
  · refine WC_region ?_
    refine WL_val gd0 ((o_move (v := .slice l_a2 l_n3 l_c4) (by exact e1)) _) rfl ?_
    refine WL_val gd0 ((o_len Try.underlying25 rfl) _) rfl ?_
    refine WL_val gd0 ((o_gtr rfl rfl) _) rfl ?_
    refine WL_val gd0 ((o_move (v := .bool (decide (600 < (l_n3 : Int)))) rfl) _) rfl ?_
    refine bsplit (decide (600 < (l_n3 : Int))) (fun hb71 => ?_) (fun hb71 => ?_)
    · rw [if_pos (of_decide_eq_true hb71)] at h
      refine WL_skip (gdN (b := (decide (600 < (l_n3 : Int)))) 17 rfl rfl hb71) rfl ?_
      refine WL_skip (gdN (b := (decide (600 < (l_n3 : Int)))) 17 rfl rfl hb71) rfl ?_
      refine WL_val gd0 ((o_pickT (v := .bool true) rfl hb71 rfl) _) rfl ?_
      refine WL_nil ?_
      refine nrm ?_
      exact ⟨_, rfl, e0, e1, rfl, h⟩
    · rw [if_neg (of_decide_eq_false hb71)] at h
      refine WL_val (gdY (b := (decide (600 < (l_n3 : Int)))) 17 rfl rfl hb71) ((o_move (v := .pointer h7) rfl) _) rfl ?_
      refine WL_val (gdY (b := (decide (600 < (l_n3 : Int)))) 17 rfl rfl hb71) ((o_eqlPtrNil Try.underlying23 rfl rfl) _) rfl ?_
      refine WL_val gd0 ((o_pickF (v := .bool ((h7).isNone)) rfl hb71 rfl) _) rfl ?_
      refine WL_nil ?_
      refine nrm ?_
      exact ⟨_, rfl, e0, e1, rfl, h⟩
  · rintro ρ w13 ⟨t12, e20_11, e0_8, e1_9, e5_10, h⟩
    unfold F4_j1 at h
    refine WC_cond (t := t12) (by exact e20_11) (fun hb14 => ?_) (fun hb14 => ?_)
    · rw [if_pos hb14] at h
      refine WC_seq ?_
      refine WC_region ?_
      refine WL_val gd0 ((o_move (v := .pointer h7) (by exact e5_10)) _) rfl ?_
      refine WL_val gd0 ((o_neqPtrNil Try.underlying23 rfl rfl) _) rfl ?_
      refine WL_val gd0 ((o_move (v := .bool (!(h7).isNone)) rfl) _) rfl ?_
      refine bsplit (!(h7).isNone) (fun hb15 => ?_) (fun hb15 => ?_)
      · rw [if_pos hb15] at h
        refine WL_call (gdY (b := (!(h7).isNone)) 23 rfl rfl hb15) (o_call Try.call9 argNil _) rfl (h.mono ?_)
        rintro _ w16 ⟨x17, rfl, h⟩
        refine WL_val gd0 ((o_pickT (v := .bool x17) rfl hb15 rfl) _) rfl ?_
        refine WL_val gd0 ((o_assign (v := .bool x17) rfl) _) rfl ?_
        refine WL_nil ?_
        refine nrm ?_
        refine WC_ret ?_
        refine rtT ?_
        refine rtE ?_
        exact gv1 rfl rfl h
      · rw [if_neg (neT hb15)] at h
        refine WL_skip (gdN (b := (!(h7).isNone)) 23 rfl rfl hb15) rfl ?_
        refine WL_val gd0 ((o_pickF (v := .bool false) rfl hb15 rfl) _) rfl ?_
        refine WL_val gd0 ((o_assign (v := .bool false) rfl) _) rfl ?_
        refine WL_nil ?_
        refine nrm ?_
        refine WC_ret ?_
        refine rtT ?_
        refine rtE ?_
        exact gv1 rfl rfl h
    · rw [if_neg (neT hb14)] at h
      refine WC_skip ?_
      refine nrm ?_
      refine WC_seq ?_
      refine WC_region ?_
      refine WL_val gd0 ((o_move (v := .int .i64 most1) (by exact e0_8)) _) rfl ?_
      refine WL_val gd0 ((o_max2 rfl rfl) _) rfl ?_
      refine WL_val gd0 ((o_min2 rfl rfl) _) rfl ?_
      refine WL_val gd0 ((o_assign (v := .int .i64 (min (max most1 0) 256)) rfl) _) rfl ?_
      refine WL_nil ?_
      refine nrm ?_
      refine WC_seq ?_
      refine WC_region ?_
      refine WL_val gd0 ((o_move (v := .slice l_a2 l_n3 l_c4) (by exact e1_9)) _) rfl ?_
      refine WL_val gd0 ((o_len Try.underlying25 rfl) _) rfl ?_
      obtain ⟨b_a18, b_n19, b_c20, w21, r22, h⟩ := h
      refine WL_val gd0 (o_makeSlice rfl rfl r22) rfl ?_
      refine WL_val gd0 ((o_assign (v := .slice b_a18 b_n19 b_c20) rfl) _) rfl ?_
      refine WL_nil ?_
      refine nrm ?_
      refine WC_seq ?_
      refine WC_seq ?_
      refine WC_region ?_
      refine WL_val gd0 ((o_assign (v := .int .i64 0) rfl) _) rfl ?_
      refine WL_nil ?_
      refine nrm ?_
      refine WC_block ?_
      obtain ⟨J32, ⟨n32, h0⟩, hr32⟩ := h
      refine WC_loop (fun n ρ w' => ∃ (out_a27 : Option Addr) (out_n28 out_c29 : Nat) (i31 : Int), ρ 7 = .slice out_a27 out_n28 out_c29 ∧ ρ 8 = .int .i64 i31 ∧ ρ 1 = .slice l_a2 l_n3 l_c4 ∧ ρ 5 = .pointer h7 ∧ ρ 6 = .int .i64 (min (max most1 0) 256) ∧ J32 n (out_a27, out_n28, out_c29, i31) w') ⟨n32, _, _, _, _, rfl, rfl, e1_9, e5_10, rfl, h0⟩ ?_
      rintro n32 ρ w32 ⟨out_a27, out_n28, out_c29, i31, e7_26, e8_30, e1_23, e5_24, e6_25, h⟩
      have h : F4_b2 l_n3 l_a2 h7 most1 l_c4 out_a27 out_n28 out_c29 i31 w32 (fun x0 x1 x2 x3 w => ∃ m, m < n32 ∧ J32 m (x0, x1, x2, x3) w) k := hr32 n32 (out_a27, out_n28, out_c29, i31) w32 h
      unfold F4_b2 at h
      refine WC_seq ?_
      refine WC_seq ?_
      refine WC_region ?_
      refine WL_val gd0 ((o_move (v := .int .i64 i31) (by exact e8_30)) _) rfl ?_
      refine WL_val gd0 ((o_move (v := .slice l_a2 l_n3 l_c4) (by exact e1_23)) _) rfl ?_
      refine WL_val gd0 ((o_len Try.underlying25 rfl) _) rfl ?_
      refine WL_val gd0 ((o_lss rfl rfl) _) rfl ?_
      refine WL_nil ?_
      refine nrm ?_
      refine WC_cond (t := (decide (i31 < (l_n3 : Int)))) rfl (fun hb34 => ?_) (fun hb34 => ?_)
      · rw [if_pos (of_decide_eq_true hb34)] at h
        refine WC_skip ?_
        refine nrm ?_
        refine WC_seq ?_
        refine WC_block ?_
        refine WC_seq ?_
        refine WC_region ?_
        refine WL_val gd0 ((o_move (v := .pointer h7) (by exact e5_24)) _) rfl ?_
        refine WL_val gd0 ((o_move (v := .slice l_a2 l_n3 l_c4) (by exact e1_23)) _) rfl ?_
        refine WL_val gd0 ((o_move (v := .int .i64 i31) (by exact e8_30)) _) rfl ?_
        obtain ⟨p37, q38, h⟩ := h
        obtain ⟨l35, u36, h⟩ := h
        refine WL_val gd0 ((o_indexAddr1 Try.underlying25 Try.sizeOf3 (by exact (congrArg (fun z => Value.slice z l_n3 l_c4) q38)) rfl l35 u36) _) rfl ?_
        obtain ⟨x39, hc40, h⟩ := h
        refine WL_val gd0 (o_load Try.isAgg3 rfl hc40) rfl ?_
        refine WL_call gd0 (o_call Try.call12 (argCons rfl (argCons rfl argNil)) _) rfl (h.mono ?_)
        rintro _ w41 ⟨r42, r43, rfl, h⟩
        refine WL_val gd0 ((o_move (v := .tuple #[.int .i64 r42, .bool r43]) rfl) _) rfl ?_
        refine WL_val gd0 ((o_extract (vs := [.int .i64 r42, .bool r43]) (r := .int .i64 r42) rfl rfl) _) rfl ?_
        refine WL_val gd0 ((o_extract (vs := [.int .i64 r42, .bool r43]) (r := .bool r43) rfl rfl) _) rfl ?_
        refine WL_val gd0 ((o_assign (v := .int .i64 r42) rfl) _) rfl ?_
        refine WL_val gd0 ((o_assign (v := .bool r43) rfl) _) rfl ?_
        refine WL_nil ?_
        refine nrm ?_
        refine WC_seq ?_
        refine WC_region ?_
        refine WL_val gd0 ((o_move (v := .bool r43) rfl) _) rfl ?_
        refine WL_nil ?_
        refine nrm ?_
        refine WC_cond (t := r43) rfl (fun hb44 => ?_) (fun hb44 => ?_)
        · rw [if_pos hb44] at h
          refine WC_region ?_
          refine WL_val gd0 ((o_move (v := .slice out_a27 out_n28 out_c29) (by exact e7_26)) _) rfl ?_
          refine WL_val gd0 ((o_move (v := .int .i64 r42) rfl) _) rfl ?_
          have h := New.out h
          refine WL_val gd0 (o_buildSlice (e := 3) (ps := [(0, .int .i64 r42)]) (cs := [.int .i64 r42]) (partCons rfl partNil) (fun w => by kernel_rfl)) rfl ?_
          generalize hp45 : fresh w41 = p45 at h ⊢
          generalize hw46 : push w41 3 [.int .i64 r42] = w46 at h ⊢
          try dsimp only at h
          obtain ⟨b_a47, b_n48, b_c49, w50, r51, h⟩ := h
          refine WL_val gd0 (o_append rfl rfl r51) rfl ?_
          refine WL_val gd0 ((o_assign (v := .slice b_a47 b_n48 b_c49) rfl) _) rfl ?_
          refine WL_nil ?_
          refine nrmB ?_
          refine nrm ?_
          refine WC_region ?_
          refine WL_val gd0 ((o_move (v := .int .i64 i31) (by exact e8_30)) _) rfl ?_
          refine WL_val gd0 ((o_add rfl rfl) _) rfl ?_
          refine WL_val gd0 ((o_assign (v := .int .i64 (IntKind.i64.wrap (i31 + 1))) rfl) _) rfl ?_
          refine WL_nil ?_
          refine nrm ?_
          obtain ⟨m33, hm33, h⟩ := h
          exact ⟨m33, hm33, _, _, _, _, rfl, rfl, e1_23, e5_24, e6_25, h⟩
        · rw [if_neg (neT hb44)] at h
          refine WC_skip ?_
          refine nrmB ?_
          refine nrm ?_
          refine WC_region ?_
          refine WL_val gd0 ((o_move (v := .int .i64 i31) (by exact e8_30)) _) rfl ?_
          refine WL_val gd0 ((o_add rfl rfl) _) rfl ?_
          refine WL_val gd0 ((o_assign (v := .int .i64 (IntKind.i64.wrap (i31 + 1))) rfl) _) rfl ?_
          refine WL_nil ?_
          refine nrm ?_
          obtain ⟨m33, hm33, h⟩ := h
          exact ⟨m33, hm33, _, _, _, _, e7_26, rfl, e1_23, e5_24, e6_25, h⟩
      · rw [if_neg (of_decide_eq_false hb34)] at h
        refine WC_exit ?_
        refine exT ?_
        refine exT ?_
        refine exB ?_
        refine nrm ?_
        refine WC_seq ?_
        refine WC_region ?_
        refine WL_val gd0 ((o_move (v := .slice l_a2 l_n3 l_c4) (by exact e1_23)) _) rfl ?_
        refine WL_val gd0 ((o_len Try.underlying25 rfl) _) rfl ?_
        refine WL_val gd0 ((o_move (v := .int .i64 (min (max most1 0) 256)) (by exact e6_25)) _) rfl ?_
        refine WL_val gd0 ((o_sub rfl rfl) _) rfl ?_
        refine WL_val gd0 ((o_max2 rfl rfl) _) rfl ?_
        refine WL_val gd0 ((o_assign (v := .int .i64 (max 0 (IntKind.i64.wrap ((l_n3 : Int) - (min (max most1 0) 256))))) rfl) _) rfl ?_
        refine WL_nil ?_
        refine nrm ?_
        refine WC_seq ?_
        refine WC_draws [(0, true), (1, true), (2, true), (3, true), (4, false), (5, true), (6, true), (8, true), (9, true), (10, true), (7, false), (11, false), (12, true), (13, true), (14, true), (16, true), (15, false), (17, true), (18, true), (19, true), (20, false), (21, true), (22, true)] Try.mixed (by kernel_rfl) ?_
        refine WQ_val rfl gd0 (o_move (v := .slice out_a27 out_n28 out_c29) (by exact e7_26)) rfl ?_
        refine WQ_val rfl gd0 (o_move (v := .slice l_a2 l_n3 l_c4) (by exact e1_23)) rfl ?_
        refine WQ_val rfl gd0 (o_move (v := .int .i64 (max 0 (IntKind.i64.wrap ((l_n3 : Int) - (min (max most1 0) 256))))) rfl) rfl ?_
        obtain ⟨c52, c53, h⟩ := h
        refine WQ_val rfl gd0 (o_sliceH Try.underlying25 Try.sizeOf3 rfl rfl c52 c53) rfl ?_
        refine WQ_call rfl gd0 (o_call Try.call15 (argCons rfl (argCons rfl argNil)) _) rfl (h.mono ?_)
        rintro _ w54 ⟨x55, rfl, h⟩
        refine ⟨trivial, ?_⟩
        refine WQ_val rfl gd0 (o_move (v := .bool x55) rfl) rfl ?_
        refine bsplit x55 (fun hb56 => ?_) (fun hb56 => ?_)
        · rw [if_pos hb56] at h
          refine WQ_val rfl (gdY (b := x55) 62 rfl rfl hb56) (o_move (v := .pointer h7) (by exact e5_24)) rfl ?_
          refine WQ_val rfl (gdY (b := x55) 62 rfl rfl hb56) (o_move (v := .slice l_a2 l_n3 l_c4) (by exact e1_23)) rfl ?_
          refine WQ_val rfl (gdY (b := x55) 62 rfl rfl hb56) (o_move (v := .int .i64 (max 0 (IntKind.i64.wrap ((l_n3 : Int) - (min (max most1 0) 256))))) rfl) rfl ?_
          obtain ⟨c57, c58, h⟩ := h
          refine WQ_val rfl (gdY (b := x55) 62 rfl rfl hb56) (o_sliceL Try.underlying25 Try.sizeOf3 rfl rfl c57 c58) rfl ?_
          refine WQ_call rfl (gdY (b := x55) 62 rfl rfl hb56) (o_call Try.call16 (argCons rfl argNil) _) rfl (h.mono ?_)
          rintro _ w59 ⟨x_a60, x_n61, x_c62, rfl, h⟩
          refine ⟨trivial, ?_⟩
          refine WQ_call rfl (gdY (b := x55) 62 rfl rfl hb56) (o_call Try.call15 (argCons rfl (argCons rfl argNil)) _) rfl (h.mono ?_)
          rintro _ w63 ⟨x64, rfl, h⟩
          refine ⟨trivial, ?_⟩
          refine WQ_val rfl gd0 (o_pickT (v := .bool x64) rfl hb56 rfl) rfl ?_
          refine WQ_val rfl gd0 (o_move (v := .bool x64) rfl) rfl ?_
          refine bsplit x64 (fun hb65 => ?_) (fun hb65 => ?_)
          · rw [if_pos hb65] at h
            refine WQ_val rfl (gdY (b := x64) 70 rfl rfl hb65) (o_move (v := .pointer h7) (by exact e5_24)) rfl ?_
            refine WQ_val rfl (gdY (b := x64) 70 rfl rfl hb65) (o_move (v := .int .i64 (max 0 (IntKind.i64.wrap ((l_n3 : Int) - (min (max most1 0) 256))))) rfl) rfl ?_
            refine WQ_call rfl (gdY (b := x64) 70 rfl rfl hb65) (o_call Try.call17 (argCons rfl argNil) _) rfl (h.mono ?_)
            rintro _ w66 ⟨x67, rfl, h⟩
            refine ⟨trivial, ?_⟩
            refine WQ_val rfl (gdY (b := x64) 70 rfl rfl hb65) (o_eql rfl rfl) rfl ?_
            refine WQ_val rfl gd0 (o_pickT (v := .bool (decide (x67 = (max 0 (IntKind.i64.wrap ((l_n3 : Int) - (min (max most1 0) 256))))))) rfl hb65 rfl) rfl ?_
            refine WQ_val rfl gd0 (o_move (v := .bool (decide (x67 = (max 0 (IntKind.i64.wrap ((l_n3 : Int) - (min (max most1 0) 256))))))) rfl) rfl ?_
            refine bsplit (decide (x67 = (max 0 (IntKind.i64.wrap ((l_n3 : Int) - (min (max most1 0) 256)))))) (fun hb68 => ?_) (fun hb68 => ?_)
            · rw [if_pos (of_decide_eq_true hb68)] at h
              refine WQ_call rfl (gdY (b := (decide (x67 = (max 0 (IntKind.i64.wrap ((l_n3 : Int) - (min (max most1 0) 256))))))) 76 rfl rfl hb68) (o_call Try.call9 argNil _) rfl (h.mono ?_)
              rintro _ w69 ⟨x70, rfl, h⟩
              refine ⟨trivial, ?_⟩
              refine WQ_val rfl gd0 (o_pickT (v := .bool x70) rfl hb68 rfl) rfl ?_
              refine WQ_val rfl gd0 (o_assign (v := .bool x70) rfl) rfl ?_
              refine WQ_nil ?_
              refine nrm ?_
              refine WC_ret ?_
              refine rtE ?_
              exact gv1 rfl rfl h
            · rw [if_neg (of_decide_eq_false hb68)] at h
              refine WQ_passAct rfl (gdN (b := (decide (x67 = (max 0 (IntKind.i64.wrap ((l_n3 : Int) - (min (max most1 0) 256))))))) 76 rfl rfl hb68) rfl (by exact trivial) ?_
              refine WQ_val rfl gd0 (o_pickF (v := .bool false) rfl hb68 rfl) rfl ?_
              refine WQ_val rfl gd0 (o_assign (v := .bool false) rfl) rfl ?_
              refine WQ_nil ?_
              refine nrm ?_
              refine WC_ret ?_
              refine rtE ?_
              exact gv1 rfl rfl h
          · rw [if_neg (neT hb65)] at h
            refine WQ_skip rfl (gdN (b := x64) 70 rfl rfl hb65) rfl ?_
            refine WQ_skip rfl (gdN (b := x64) 70 rfl rfl hb65) rfl ?_
            refine WQ_passAct rfl (gdN (b := x64) 70 rfl rfl hb65) rfl (by exact trivial) ?_
            refine WQ_skip rfl (gdN (b := x64) 70 rfl rfl hb65) rfl ?_
            refine WQ_val rfl gd0 (o_pickF (v := .bool false) rfl hb65 rfl) rfl ?_
            refine WQ_val rfl gd0 (o_move (v := .bool false) rfl) rfl ?_
            refine WQ_passAct rfl (gdN (b := false) 76 rfl rfl rfl) rfl (by exact trivial) ?_
            refine WQ_val rfl gd0 (o_pickF (v := .bool false) rfl rfl rfl) rfl ?_
            refine WQ_val rfl gd0 (o_assign (v := .bool false) rfl) rfl ?_
            refine WQ_nil ?_
            refine nrm ?_
            refine WC_ret ?_
            refine rtE ?_
            exact gv1 rfl rfl h
        · rw [if_neg (neT hb56)] at h
          refine WQ_skip rfl (gdN (b := x55) 62 rfl rfl hb56) rfl ?_
          refine WQ_skip rfl (gdN (b := x55) 62 rfl rfl hb56) rfl ?_
          refine WQ_skip rfl (gdN (b := x55) 62 rfl rfl hb56) rfl ?_
          refine WQ_skip rfl (gdN (b := x55) 62 rfl rfl hb56) rfl ?_
          refine WQ_passAct rfl (gdN (b := x55) 62 rfl rfl hb56) rfl (by exact trivial) ?_
          refine WQ_passAct rfl (gdN (b := x55) 62 rfl rfl hb56) rfl (by exact trivial) ?_
          refine WQ_val rfl gd0 (o_pickF (v := .bool false) rfl hb56 rfl) rfl ?_
          refine WQ_val rfl gd0 (o_move (v := .bool false) rfl) rfl ?_
          refine WQ_skip rfl (gdN (b := false) 70 rfl rfl rfl) rfl ?_
          refine WQ_skip rfl (gdN (b := false) 70 rfl rfl rfl) rfl ?_
          refine WQ_passAct rfl (gdN (b := false) 70 rfl rfl rfl) rfl (by exact trivial) ?_
          refine WQ_skip rfl (gdN (b := false) 70 rfl rfl rfl) rfl ?_
          refine WQ_val rfl gd0 (o_pickF (v := .bool false) rfl rfl rfl) rfl ?_
          refine WQ_val rfl gd0 (o_move (v := .bool false) rfl) rfl ?_
          refine WQ_passAct rfl (gdN (b := false) 76 rfl rfl rfl) rfl (by exact trivial) ?_
          refine WQ_val rfl gd0 (o_pickF (v := .bool false) rfl rfl rfl) rfl ?_
          refine WQ_val rfl gd0 (o_assign (v := .bool false) rfl) rfl ?_
          refine WQ_nil ?_
          refine nrm ?_
          refine WC_ret ?_
          refine rtE ?_
          exact gv1 rfl rfl h

def F5_b3 (b_n6 : Nat) (b_a5 : Option Addr) (c58 : Option Addr) (p66 : Addr) (h10 : Option Addr) (p17 : Addr) (i76 : Int) (w77 : World) (nx77 : Int → World → Prop) (k : Value → World → Prop) : Prop :=
  if i76 < (b_n6 : Int) then
  ∃ (p82 : Addr), b_a5 = some p82 ∧ (0 : Int) ≤ i76 ∧ i76 < (b_n6 : Int) ∧ ∃ (x84 : Int), w77.cell? (p82.add i76.toNat) = some (.int .i64 x84) ∧ Does Try.prog 12 #[.pointer c58, .int .i64 x84] w77 (fun v w86 => ∃ (r87 : Int) (r88 : Bool), v = .tuple #[.int .i64 r87, .bool r88] ∧ (0 : Int) ≤ i76 ∧ i76 < (b_n6 : Int) ∧ ∃ (x91 : Int), w86.cell? (p82.add i76.toNat) = some (.int .i64 x91) ∧ Does Try.prog 13 #[.pointer (some p66), .int .i64 x91] w86 (fun v w93 => ∃ (r94 : Int) (r95 : Bool), v = .tuple #[.int .i64 r94, .bool r95] ∧ (0 : Int) ≤ i76 ∧ i76 < (b_n6 : Int) ∧ ∃ (x98 : Int), w93.cell? (p82.add i76.toNat) = some (.int .i64 x98) ∧ Does Try.prog 12 #[.pointer h10, .int .i64 (IntKind.i64.wrap (0 - x98))] w93 (fun v w100 => ∃ (r101 : Int) (r102 : Bool), v = .tuple #[.int .i64 r101, .bool r102] ∧ (0 : Int) ≤ i76 ∧ i76 < (b_n6 : Int) ∧ ∃ (x105 : Int), w100.cell? (p82.add i76.toNat) = some (.int .i64 x105) ∧ Does Try.prog 13 #[.pointer (some p17), .int .i64 (IntKind.i64.wrap (0 - x105))] w100 (fun v w107 => ∃ (r108 : Int) (r109 : Bool), v = .tuple #[.int .i64 r108, .bool r109] ∧ nx77 (IntKind.i64.wrap (i76 + 1)) w107))))
else
  ∃ (x110 x111 : Int) (x_a112 : Option Addr) (x_n113 x_c114 : Nat), Cells w77 p17 0 [.int .i64 x110, .int .i64 x111, .slice x_a112 x_n113 x_c114] ∧ Does Try.prog 14 #[.pointer h10, .agg #[.int .i64 x110, .int .i64 x111, .slice x_a112 x_n113 x_c114]] w77 (fun v w116 => ∃ (x117 : Bool), v = .bool x117 ∧ if x117 = true then
    ∃ (x119 x120 : Int) (x_a121 : Option Addr) (x_n122 x_c123 : Nat), Cells w116 p66 0 [.int .i64 x119, .int .i64 x120, .slice x_a121 x_n122 x_c123] ∧ Does Try.prog 14 #[.pointer c58, .agg #[.int .i64 x119, .int .i64 x120, .slice x_a121 x_n122 x_c123]] w116 (fun v w125 => ∃ (x126 : Bool), v = .bool x126 ∧ if x126 = true then
      Does Try.prog 9 #[] w125 (fun v w128 => ∃ (x129 : Bool), v = .bool x129 ∧ k (.bool x129) w128)
    else
      k (.bool false) w125)
  else
    k (.bool false) w116)
def F5_b2 (a_n3 : Nat) (a_a2 : Option Addr) (h10 : Option Addr) (p17 : Addr) (b_n6 : Nat) (b_a5 : Option Addr) (i37 : Int) (w38 : World) (nx38 : Int → World → Prop) (k : Value → World → Prop) : Prop :=
  if i37 < (a_n3 : Int) then
  ∃ (p43 : Addr), a_a2 = some p43 ∧ (0 : Int) ≤ i37 ∧ i37 < (a_n3 : Int) ∧ ∃ (x45 : Int), w38.cell? (p43.add i37.toNat) = some (.int .i64 x45) ∧ Does Try.prog 12 #[.pointer h10, .int .i64 x45] w38 (fun v w47 => ∃ (r48 : Int) (r49 : Bool), v = .tuple #[.int .i64 r48, .bool r49] ∧ (0 : Int) ≤ i37 ∧ i37 < (a_n3 : Int) ∧ ∃ (x52 : Int), w47.cell? (p43.add i37.toNat) = some (.int .i64 x52) ∧ Does Try.prog 13 #[.pointer (some p17), .int .i64 x52] w47 (fun v w54 => ∃ (r55 : Int) (r56 : Bool), v = .tuple #[.int .i64 r55, .bool r56] ∧ nx38 (IntKind.i64.wrap (i37 + 1)) w54))
else
  Does Try.prog 18 #[.pointer h10] w38 (fun v w57 => ∃ (c58 : Option Addr), v = .pointer c58 ∧ if (c58).isNone = true then
    k (.bool false) w57
  else
    ∃ (x60 x61 : Int) (x_a62 : Option Addr) (x_n63 x_c64 : Nat), Cells w57 p17 0 [.int .i64 x60, .int .i64 x61, .slice x_a62 x_n63 x_c64] ∧ New w57 27 [.int .i64 0, .int .i64 0, .slice none 0 0] (fun p66 w67 => PutAll w67 p66 [.int .i64 x60, .int .i64 x61, .slice x_a62 x_n63 x_c64] (fun w68 => LoopP (fun (s : Int) w' nx' => F5_b3 b_n6 b_a5 c58 p66 h10 p17 s w' (fun x0 w => nx' x0 w) k) 0 w68)))
def F5_j1 (h10 : Option Addr) (a_n3 : Nat) (a_a2 : Option Addr) (p17 : Addr) (b_n6 : Nat) (b_a5 : Option Addr) (t26 : Bool) (w27 : World) (k : Value → World → Prop) : Prop :=
  if t26 = true then
  if (!(h10).isNone) = true then
    Does Try.prog 9 #[] w27 (fun v w30 => ∃ (x31 : Bool), v = .bool x31 ∧ k (.bool x31) w30)
  else
    k (.bool false) w27
else
  LoopP (fun (s : Int) w' nx' => F5_b2 a_n3 a_a2 h10 p17 b_n6 b_a5 s w' (fun x0 w => nx' x0 w) k) 0 w27
/-- spacecraft spacecraftlaw09.HistoryClones -/
def F5 (most1 : Int) (a_a2 : Option Addr) (a_n3 : Nat) (a_c4 : Nat) (b_a5 : Option Addr) (b_n6 : Nat) (b_c7 : Nat) (w8 : World) (k : Value → World → Prop) : Prop :=
  Does Try.prog 7 #[.int .i64 most1] w8 (fun v w9 => ∃ (h10 : Option Addr), v = .pointer h10 ∧ Does Try.prog 8 #[.int .i64 most1] w9 (fun v w11 => ∃ (x12 x13 : Int) (x_a14 : Option Addr) (x_n15 x_c16 : Nat), v = .agg #[.int .i64 x12, .int .i64 x13, .slice x_a14 x_n15 x_c16] ∧ New w11 27 [.int .i64 0, .int .i64 0, .slice none 0 0] (fun p17 w18 => PutAll w18 p17 [.int .i64 x12, .int .i64 x13, .slice x_a14 x_n15 x_c16] (fun w19 => if 600 < (IntKind.i64.wrap ((a_n3 : Int) + (b_n6 : Int))) then
  F5_j1 h10 a_n3 a_a2 p17 b_n6 b_a5 true w19 k
else
  F5_j1 h10 a_n3 a_a2 p17 b_n6 b_a5 ((h10).isNone) w19 k))))
set_option maxRecDepth 100000 in
set_option maxHeartbeats 2000000 in
theorem w5 (most1 : Int) (a_a2 : Option Addr) (a_n3 : Nat) (a_c4 : Nat) (b_a5 : Option Addr) (b_n6 : Nat) (b_c7 : Nat) (w8 : World) (k : Value → World → Prop) (h : F5 most1 a_a2 a_n3 a_c4 b_a5 b_n6 b_c7 w8 k) : Does Try.prog 5 #[.int .i64 most1, .slice a_a2 a_n3 a_c4, .slice b_a5 b_n6 b_c7] w8 k := by
  refine enter 95 Try.func5 rfl rfl rfl ?_
  intro ρ hρ
  have e0 := hρ 0 _ rfl
  have e1 := hρ 1 _ rfl
  have e2 := hρ 2 _ rfl
  unfold F5 at h
  refine WC_seq ?_
  refine WC_region ?_
  refine WL_val gd0 ((o_assign (v := .bool false) rfl) _) rfl ?_
  refine WL_nil ?_
  refine nrm ?_
  refine WC_seq ?_
  refine WC_region ?_
  refine WL_val gd0 ((o_move (v := .int .i64 most1) (by exact e0)) _) rfl ?_
  refine WL_call gd0 (o_call Try.call7 (argCons rfl argNil) _) rfl (h.mono ?_)
  rintro _ w9 ⟨h10, rfl, h⟩
  refine WL_val gd0 ((o_assign (v := .pointer h10) rfl) _) rfl ?_
  refine WL_nil ?_
  refine nrm ?_
  refine WC_seq ?_
  refine WC_region ?_
  refine WL_val gd0 ((o_move (v := .int .i64 most1) (by exact e0)) _) rfl ?_
  refine WL_call gd0 (o_call Try.call8 (argCons rfl argNil) _) rfl (h.mono ?_)
  rintro _ w11 ⟨x12, x13, x_a14, x_n15, x_c16, rfl, h⟩
  have h := New.out h
  refine WL_val gd0 (o_alloc (z := .agg #[.int .i64 0, .int .i64 0, .slice none 0 0]) (cs := [.int .i64 0, .int .i64 0, .slice none 0 0]) Try.zeroValue27 rfl) rfl ?_
  generalize hp17 : fresh w11 = p17 at h ⊢
  generalize hw18 : push w11 27 [.int .i64 0, .int .i64 0, .slice none 0 0] = w18 at h ⊢
  try dsimp only at h
  obtain ⟨c20, h⟩ := h
  refine WL_act gd0 (o_storeAgg (vs := [.int .i64 x12, .int .i64 x13, .slice x_a14 x_n15 x_c16]) Try.sizeOf27 rfl rfl rfl c20) ?_
  generalize hw19 : setAll w18 p17 0 [.int .i64 x12, .int .i64 x13, .slice x_a14 x_n15 x_c16] = w19 at h ⊢
  try dsimp only at h
  refine WL_nil ?_
  refine nrm ?_
  refine WC_seq ?_
  refine WC_cut (fun ρ w' => ∃ (t26 : Bool), ρ 26 = .bool t26 ∧ ρ 1 = .slice a_a2 a_n3 a_c4 ∧ ρ 2 = .slice b_a5 b_n6 b_c7 ∧ ρ 7 = .pointer h10 ∧ ρ 8 = .pointer (some p17) ∧ F5_j1 h10 a_n3 a_a2 p17 b_n6 b_a5 t26 w' k) ?_ ?_
  · refine WC_region ?_
    refine WL_val gd0 ((o_move (v := .slice a_a2 a_n3 a_c4) (by exact e1)) _) rfl ?_
    refine WL_val gd0 ((o_len Try.underlying25 rfl) _) rfl ?_
    refine WL_val gd0 ((o_move (v := .slice b_a5 b_n6 b_c7) (by exact e2)) _) rfl ?_
    refine WL_val gd0 ((o_len Try.underlying25 rfl) _) rfl ?_
    refine WL_val gd0 ((o_add rfl rfl) _) rfl ?_
    refine WL_val gd0 ((o_gtr rfl rfl) _) rfl ?_
    refine WL_val gd0 ((o_move (v := .bool (decide (600 < (IntKind.i64.wrap ((a_n3 : Int) + (b_n6 : Int)))))) rfl) _) rfl ?_
    refine bsplit (decide (600 < (IntKind.i64.wrap ((a_n3 : Int) + (b_n6 : Int))))) (fun hb130 => ?_) (fun hb130 => ?_)
    · rw [if_pos (of_decide_eq_true hb130)] at h
      refine WL_skip (gdN (b := (decide (600 < (IntKind.i64.wrap ((a_n3 : Int) + (b_n6 : Int)))))) 23 rfl rfl hb130) rfl ?_
      refine WL_skip (gdN (b := (decide (600 < (IntKind.i64.wrap ((a_n3 : Int) + (b_n6 : Int)))))) 23 rfl rfl hb130) rfl ?_
      refine WL_val gd0 ((o_pickT (v := .bool true) rfl hb130 rfl) _) rfl ?_
      refine WL_nil ?_
      refine nrm ?_
      exact ⟨_, rfl, e1, e2, rfl, rfl, h⟩
    · rw [if_neg (of_decide_eq_false hb130)] at h
      refine WL_val (gdY (b := (decide (600 < (IntKind.i64.wrap ((a_n3 : Int) + (b_n6 : Int)))))) 23 rfl rfl hb130) ((o_move (v := .pointer h10) rfl) _) rfl ?_
      refine WL_val (gdY (b := (decide (600 < (IntKind.i64.wrap ((a_n3 : Int) + (b_n6 : Int)))))) 23 rfl rfl hb130) ((o_eqlPtrNil Try.underlying23 rfl rfl) _) rfl ?_
      refine WL_val gd0 ((o_pickF (v := .bool ((h10).isNone)) rfl hb130 rfl) _) rfl ?_
      refine WL_nil ?_
      refine nrm ?_
      exact ⟨_, rfl, e1, e2, rfl, rfl, h⟩
  · rintro ρ w27 ⟨t26, e26_25, e1_21, e2_22, e7_23, e8_24, h⟩
    unfold F5_j1 at h
    refine WC_cond (t := t26) (by exact e26_25) (fun hb28 => ?_) (fun hb28 => ?_)
    · rw [if_pos hb28] at h
      refine WC_seq ?_
      refine WC_region ?_
      refine WL_val gd0 ((o_move (v := .pointer h10) (by exact e7_23)) _) rfl ?_
      refine WL_val gd0 ((o_neqPtrNil Try.underlying23 rfl rfl) _) rfl ?_
      refine WL_val gd0 ((o_move (v := .bool (!(h10).isNone)) rfl) _) rfl ?_
      refine bsplit (!(h10).isNone) (fun hb29 => ?_) (fun hb29 => ?_)
      · rw [if_pos hb29] at h
        refine WL_call (gdY (b := (!(h10).isNone)) 29 rfl rfl hb29) (o_call Try.call9 argNil _) rfl (h.mono ?_)
        rintro _ w30 ⟨x31, rfl, h⟩
        refine WL_val gd0 ((o_pickT (v := .bool x31) rfl hb29 rfl) _) rfl ?_
        refine WL_val gd0 ((o_assign (v := .bool x31) rfl) _) rfl ?_
        refine WL_nil ?_
        refine nrm ?_
        refine WC_ret ?_
        refine rtT ?_
        refine rtE ?_
        exact gv1 rfl rfl h
      · rw [if_neg (neT hb29)] at h
        refine WL_skip (gdN (b := (!(h10).isNone)) 29 rfl rfl hb29) rfl ?_
        refine WL_val gd0 ((o_pickF (v := .bool false) rfl hb29 rfl) _) rfl ?_
        refine WL_val gd0 ((o_assign (v := .bool false) rfl) _) rfl ?_
        refine WL_nil ?_
        refine nrm ?_
        refine WC_ret ?_
        refine rtT ?_
        refine rtE ?_
        exact gv1 rfl rfl h
    · rw [if_neg (neT hb28)] at h
      refine WC_skip ?_
      refine nrm ?_
      refine WC_seq ?_
      refine WC_seq ?_
      refine WC_region ?_
      refine WL_val gd0 ((o_assign (v := .int .i64 0) rfl) _) rfl ?_
      refine WL_nil ?_
      refine nrm ?_
      refine WC_block ?_
      obtain ⟨J38, ⟨n38, h0⟩, hr38⟩ := h
      refine WC_loop (fun n ρ w' => ∃ (i37 : Int), ρ 9 = .int .i64 i37 ∧ ρ 1 = .slice a_a2 a_n3 a_c4 ∧ ρ 2 = .slice b_a5 b_n6 b_c7 ∧ ρ 7 = .pointer h10 ∧ ρ 8 = .pointer (some p17) ∧ J38 n i37 w') ⟨n38, _, rfl, e1_21, e2_22, e7_23, e8_24, h0⟩ ?_
      rintro n38 ρ w38 ⟨i37, e9_36, e1_32, e2_33, e7_34, e8_35, h⟩
      have h : F5_b2 a_n3 a_a2 h10 p17 b_n6 b_a5 i37 w38 (fun x0 w => ∃ m, m < n38 ∧ J38 m x0 w) k := hr38 n38 i37 w38 h
      unfold F5_b2 at h
      refine WC_seq ?_
      refine WC_seq ?_
      refine WC_region ?_
      refine WL_val gd0 ((o_move (v := .int .i64 i37) (by exact e9_36)) _) rfl ?_
      refine WL_val gd0 ((o_move (v := .slice a_a2 a_n3 a_c4) (by exact e1_32)) _) rfl ?_
      refine WL_val gd0 ((o_len Try.underlying25 rfl) _) rfl ?_
      refine WL_val gd0 ((o_lss rfl rfl) _) rfl ?_
      refine WL_nil ?_
      refine nrm ?_
      refine WC_cond (t := (decide (i37 < (a_n3 : Int)))) rfl (fun hb40 => ?_) (fun hb40 => ?_)
      · rw [if_pos (of_decide_eq_true hb40)] at h
        refine WC_skip ?_
        refine nrm ?_
        refine WC_seq ?_
        refine WC_block ?_
        refine WC_seq ?_
        refine WC_region ?_
        refine WL_val gd0 ((o_move (v := .pointer h10) (by exact e7_34)) _) rfl ?_
        refine WL_val gd0 ((o_move (v := .slice a_a2 a_n3 a_c4) (by exact e1_32)) _) rfl ?_
        refine WL_val gd0 ((o_move (v := .int .i64 i37) (by exact e9_36)) _) rfl ?_
        obtain ⟨p43, q44, h⟩ := h
        obtain ⟨l41, u42, h⟩ := h
        refine WL_val gd0 ((o_indexAddr1 Try.underlying25 Try.sizeOf3 (by exact (congrArg (fun z => Value.slice z a_n3 a_c4) q44)) rfl l41 u42) _) rfl ?_
        obtain ⟨x45, hc46, h⟩ := h
        refine WL_val gd0 (o_load Try.isAgg3 rfl hc46) rfl ?_
        refine WL_call gd0 (o_call Try.call12 (argCons rfl (argCons rfl argNil)) _) rfl (h.mono ?_)
        rintro _ w47 ⟨r48, r49, rfl, h⟩
        refine WL_nil ?_
        refine nrm ?_
        refine WC_region ?_
        refine WL_val gd0 ((o_move (v := .slice a_a2 a_n3 a_c4) (by exact e1_32)) _) rfl ?_
        refine WL_val gd0 ((o_move (v := .int .i64 i37) (by exact e9_36)) _) rfl ?_
        obtain ⟨l50, u51, h⟩ := h
        refine WL_val gd0 ((o_indexAddr1 Try.underlying25 Try.sizeOf3 (by exact (congrArg (fun z => Value.slice z a_n3 a_c4) q44)) rfl l50 u51) _) rfl ?_
        obtain ⟨x52, hc53, h⟩ := h
        refine WL_val gd0 (o_load Try.isAgg3 rfl hc53) rfl ?_
        refine WL_call gd0 (o_call Try.call13 (argCons (by exact e8_35) (argCons rfl argNil)) _) rfl (h.mono ?_)
        rintro _ w54 ⟨r55, r56, rfl, h⟩
        refine WL_nil ?_
        refine nrmB ?_
        refine nrm ?_
        refine WC_region ?_
        refine WL_val gd0 ((o_move (v := .int .i64 i37) (by exact e9_36)) _) rfl ?_
        refine WL_val gd0 ((o_add rfl rfl) _) rfl ?_
        refine WL_val gd0 ((o_assign (v := .int .i64 (IntKind.i64.wrap (i37 + 1))) rfl) _) rfl ?_
        refine WL_nil ?_
        refine nrm ?_
        obtain ⟨m39, hm39, h⟩ := h
        exact ⟨m39, hm39, _, rfl, e1_32, e2_33, e7_34, e8_35, h⟩
      · rw [if_neg (of_decide_eq_false hb40)] at h
        refine WC_exit ?_
        refine exT ?_
        refine exT ?_
        refine exB ?_
        refine nrm ?_
        refine WC_seq ?_
        refine WC_region ?_
        refine WL_val gd0 ((o_move (v := .pointer h10) (by exact e7_34)) _) rfl ?_
        refine WL_call gd0 (o_call Try.call18 (argCons rfl argNil) _) rfl (h.mono ?_)
        rintro _ w57 ⟨c58, rfl, h⟩
        refine WL_val gd0 ((o_assign (v := .pointer c58) rfl) _) rfl ?_
        refine WL_nil ?_
        refine nrm ?_
        refine WC_seq ?_
        refine WC_seq ?_
        refine WC_region ?_
        refine WL_val gd0 ((o_move (v := .pointer c58) rfl) _) rfl ?_
        refine WL_val gd0 ((o_eqlPtrNil Try.underlying23 rfl rfl) _) rfl ?_
        refine WL_nil ?_
        refine nrm ?_
        refine WC_cond (t := ((c58).isNone)) rfl (fun hb59 => ?_) (fun hb59 => ?_)
        · rw [if_pos hb59] at h
          refine WC_seq ?_
          refine WC_region ?_
          refine WL_val gd0 ((o_assign (v := .bool false) rfl) _) rfl ?_
          refine WL_nil ?_
          refine nrm ?_
          refine WC_ret ?_
          refine rtT ?_
          refine rtE ?_
          exact gv1 rfl rfl h
        · rw [if_neg (neT hb59)] at h
          refine WC_skip ?_
          refine nrm ?_
          refine WC_seq ?_
          refine WC_region ?_
          obtain ⟨x60, x61, x_a62, x_n63, x_c64, hc65, h⟩ := h
          refine WL_val gd0 (o_loadAgg (vs := [.int .i64 x60, .int .i64 x61, .slice x_a62 x_n63 x_c64]) Try.isAgg27 Try.sizeOf27 (by exact e8_35) hc65) rfl ?_
          have h := New.out h
          refine WL_val gd0 (o_alloc (z := .agg #[.int .i64 0, .int .i64 0, .slice none 0 0]) (cs := [.int .i64 0, .int .i64 0, .slice none 0 0]) Try.zeroValue27 rfl) rfl ?_
          generalize hp66 : fresh w57 = p66 at h ⊢
          generalize hw67 : push w57 27 [.int .i64 0, .int .i64 0, .slice none 0 0] = w67 at h ⊢
          try dsimp only at h
          obtain ⟨c69, h⟩ := h
          refine WL_act gd0 (o_storeAgg (vs := [.int .i64 x60, .int .i64 x61, .slice x_a62 x_n63 x_c64]) Try.sizeOf27 rfl rfl rfl c69) ?_
          generalize hw68 : setAll w67 p66 0 [.int .i64 x60, .int .i64 x61, .slice x_a62 x_n63 x_c64] = w68 at h ⊢
          try dsimp only at h
          refine WL_nil ?_
          refine nrm ?_
          refine WC_seq ?_
          refine WC_seq ?_
          refine WC_region ?_
          refine WL_val gd0 ((o_assign (v := .int .i64 0) rfl) _) rfl ?_
          refine WL_nil ?_
          refine nrm ?_
          refine WC_block ?_
          obtain ⟨J77, ⟨n77, h0⟩, hr77⟩ := h
          refine WC_loop (fun n ρ w' => ∃ (i76 : Int), ρ 12 = .int .i64 i76 ∧ ρ 2 = .slice b_a5 b_n6 b_c7 ∧ ρ 7 = .pointer h10 ∧ ρ 8 = .pointer (some p17) ∧ ρ 10 = .pointer c58 ∧ ρ 11 = .pointer (some p66) ∧ J77 n i76 w') ⟨n77, _, rfl, e2_33, e7_34, e8_35, rfl, rfl, h0⟩ ?_
          rintro n77 ρ w77 ⟨i76, e12_75, e2_70, e7_71, e8_72, e10_73, e11_74, h⟩
          have h : F5_b3 b_n6 b_a5 c58 p66 h10 p17 i76 w77 (fun x0 w => ∃ m, m < n77 ∧ J77 m x0 w) k := hr77 n77 i76 w77 h
          unfold F5_b3 at h
          refine WC_seq ?_
          refine WC_seq ?_
          refine WC_region ?_
          refine WL_val gd0 ((o_move (v := .int .i64 i76) (by exact e12_75)) _) rfl ?_
          refine WL_val gd0 ((o_move (v := .slice b_a5 b_n6 b_c7) (by exact e2_70)) _) rfl ?_
          refine WL_val gd0 ((o_len Try.underlying25 rfl) _) rfl ?_
          refine WL_val gd0 ((o_lss rfl rfl) _) rfl ?_
          refine WL_nil ?_
          refine nrm ?_
          refine WC_cond (t := (decide (i76 < (b_n6 : Int)))) rfl (fun hb79 => ?_) (fun hb79 => ?_)
          · rw [if_pos (of_decide_eq_true hb79)] at h
            refine WC_skip ?_
            refine nrm ?_
            refine WC_seq ?_
            refine WC_block ?_
            refine WC_seq ?_
            refine WC_region ?_
            refine WL_val gd0 ((o_move (v := .pointer c58) (by exact e10_73)) _) rfl ?_
            refine WL_val gd0 ((o_move (v := .slice b_a5 b_n6 b_c7) (by exact e2_70)) _) rfl ?_
            refine WL_val gd0 ((o_move (v := .int .i64 i76) (by exact e12_75)) _) rfl ?_
            obtain ⟨p82, q83, h⟩ := h
            obtain ⟨l80, u81, h⟩ := h
            refine WL_val gd0 ((o_indexAddr1 Try.underlying25 Try.sizeOf3 (by exact (congrArg (fun z => Value.slice z b_n6 b_c7) q83)) rfl l80 u81) _) rfl ?_
            obtain ⟨x84, hc85, h⟩ := h
            refine WL_val gd0 (o_load Try.isAgg3 rfl hc85) rfl ?_
            refine WL_call gd0 (o_call Try.call12 (argCons rfl (argCons rfl argNil)) _) rfl (h.mono ?_)
            rintro _ w86 ⟨r87, r88, rfl, h⟩
            refine WL_nil ?_
            refine nrm ?_
            refine WC_seq ?_
            refine WC_region ?_
            refine WL_val gd0 ((o_move (v := .slice b_a5 b_n6 b_c7) (by exact e2_70)) _) rfl ?_
            refine WL_val gd0 ((o_move (v := .int .i64 i76) (by exact e12_75)) _) rfl ?_
            obtain ⟨l89, u90, h⟩ := h
            refine WL_val gd0 ((o_indexAddr1 Try.underlying25 Try.sizeOf3 (by exact (congrArg (fun z => Value.slice z b_n6 b_c7) q83)) rfl l89 u90) _) rfl ?_
            obtain ⟨x91, hc92, h⟩ := h
            refine WL_val gd0 (o_load Try.isAgg3 rfl hc92) rfl ?_
            refine WL_call gd0 (o_call Try.call13 (argCons (by exact e11_74) (argCons rfl argNil)) _) rfl (h.mono ?_)
            rintro _ w93 ⟨r94, r95, rfl, h⟩
            refine WL_nil ?_
            refine nrm ?_
            refine WC_seq ?_
            refine WC_region ?_
            refine WL_val gd0 ((o_move (v := .pointer h10) (by exact e7_71)) _) rfl ?_
            refine WL_val gd0 ((o_move (v := .slice b_a5 b_n6 b_c7) (by exact e2_70)) _) rfl ?_
            refine WL_val gd0 ((o_move (v := .int .i64 i76) (by exact e12_75)) _) rfl ?_
            obtain ⟨l96, u97, h⟩ := h
            refine WL_val gd0 ((o_indexAddr1 Try.underlying25 Try.sizeOf3 (by exact (congrArg (fun z => Value.slice z b_n6 b_c7) q83)) rfl l96 u97) _) rfl ?_
            obtain ⟨x98, hc99, h⟩ := h
            refine WL_val gd0 (o_load Try.isAgg3 rfl hc99) rfl ?_
            refine WL_val gd0 ((o_neg rfl) _) rfl ?_
            refine WL_call gd0 (o_call Try.call12 (argCons rfl (argCons rfl argNil)) _) rfl (h.mono ?_)
            rintro _ w100 ⟨r101, r102, rfl, h⟩
            refine WL_nil ?_
            refine nrm ?_
            refine WC_region ?_
            refine WL_val gd0 ((o_move (v := .slice b_a5 b_n6 b_c7) (by exact e2_70)) _) rfl ?_
            refine WL_val gd0 ((o_move (v := .int .i64 i76) (by exact e12_75)) _) rfl ?_
            obtain ⟨l103, u104, h⟩ := h
            refine WL_val gd0 ((o_indexAddr1 Try.underlying25 Try.sizeOf3 (by exact (congrArg (fun z => Value.slice z b_n6 b_c7) q83)) rfl l103 u104) _) rfl ?_
            obtain ⟨x105, hc106, h⟩ := h
            refine WL_val gd0 (o_load Try.isAgg3 rfl hc106) rfl ?_
            refine WL_val gd0 ((o_neg rfl) _) rfl ?_
            refine WL_call gd0 (o_call Try.call13 (argCons (by exact e8_72) (argCons rfl argNil)) _) rfl (h.mono ?_)
            rintro _ w107 ⟨r108, r109, rfl, h⟩
            refine WL_nil ?_
            refine nrmB ?_
            refine nrm ?_
            refine WC_region ?_
            refine WL_val gd0 ((o_move (v := .int .i64 i76) (by exact e12_75)) _) rfl ?_
            refine WL_val gd0 ((o_add rfl rfl) _) rfl ?_
            refine WL_val gd0 ((o_assign (v := .int .i64 (IntKind.i64.wrap (i76 + 1))) rfl) _) rfl ?_
            refine WL_nil ?_
            refine nrm ?_
            obtain ⟨m78, hm78, h⟩ := h
            exact ⟨m78, hm78, _, rfl, e2_70, e7_71, e8_72, e10_73, e11_74, h⟩
          · rw [if_neg (of_decide_eq_false hb79)] at h
            refine WC_exit ?_
            refine exT ?_
            refine exT ?_
            refine exB ?_
            refine nrm ?_
            refine WC_seq ?_
            refine WC_region ?_
            refine WL_val gd0 ((o_move (v := .pointer h10) (by exact e7_71)) _) rfl ?_
            obtain ⟨x110, x111, x_a112, x_n113, x_c114, hc115, h⟩ := h
            refine WL_val gd0 (o_loadAgg (vs := [.int .i64 x110, .int .i64 x111, .slice x_a112 x_n113 x_c114]) Try.isAgg27 Try.sizeOf27 (by exact e8_72) hc115) rfl ?_
            refine WL_call gd0 (o_call Try.call14 (argCons rfl (argCons rfl argNil)) _) rfl (h.mono ?_)
            rintro _ w116 ⟨x117, rfl, h⟩
            refine WL_val gd0 ((o_move (v := .bool x117) rfl) _) rfl ?_
            refine bsplit x117 (fun hb118 => ?_) (fun hb118 => ?_)
            · rw [if_pos hb118] at h
              refine WL_val (gdY (b := x117) 87 rfl rfl hb118) ((o_move (v := .pointer c58) (by exact e10_73)) _) rfl ?_
              obtain ⟨x119, x120, x_a121, x_n122, x_c123, hc124, h⟩ := h
              refine WL_val (gdY (b := x117) 87 rfl rfl hb118) (o_loadAgg (vs := [.int .i64 x119, .int .i64 x120, .slice x_a121 x_n122 x_c123]) Try.isAgg27 Try.sizeOf27 (by exact e11_74) hc124) rfl ?_
              refine WL_call (gdY (b := x117) 87 rfl rfl hb118) (o_call Try.call14 (argCons rfl (argCons rfl argNil)) _) rfl (h.mono ?_)
              rintro _ w125 ⟨x126, rfl, h⟩
              refine WL_val gd0 ((o_pickT (v := .bool x126) rfl hb118 rfl) _) rfl ?_
              refine WL_val gd0 ((o_move (v := .bool x126) rfl) _) rfl ?_
              refine bsplit x126 (fun hb127 => ?_) (fun hb127 => ?_)
              · rw [if_pos hb127] at h
                refine WL_call (gdY (b := x126) 92 rfl rfl hb127) (o_call Try.call9 argNil _) rfl (h.mono ?_)
                rintro _ w128 ⟨x129, rfl, h⟩
                refine WL_val gd0 ((o_pickT (v := .bool x129) rfl hb127 rfl) _) rfl ?_
                refine WL_val gd0 ((o_assign (v := .bool x129) rfl) _) rfl ?_
                refine WL_nil ?_
                refine nrm ?_
                refine WC_ret ?_
                refine rtE ?_
                exact gv1 rfl rfl h
              · rw [if_neg (neT hb127)] at h
                refine WL_skip (gdN (b := x126) 92 rfl rfl hb127) rfl ?_
                refine WL_val gd0 ((o_pickF (v := .bool false) rfl hb127 rfl) _) rfl ?_
                refine WL_val gd0 ((o_assign (v := .bool false) rfl) _) rfl ?_
                refine WL_nil ?_
                refine nrm ?_
                refine WC_ret ?_
                refine rtE ?_
                exact gv1 rfl rfl h
            · rw [if_neg (neT hb118)] at h
              refine WL_skip (gdN (b := x117) 87 rfl rfl hb118) rfl ?_
              refine WL_skip (gdN (b := x117) 87 rfl rfl hb118) rfl ?_
              refine WL_skip (gdN (b := x117) 87 rfl rfl hb118) rfl ?_
              refine WL_val gd0 ((o_pickF (v := .bool false) rfl hb118 rfl) _) rfl ?_
              refine WL_val gd0 ((o_move (v := .bool false) rfl) _) rfl ?_
              refine WL_skip (gdN (b := false) 92 rfl rfl rfl) rfl ?_
              refine WL_val gd0 ((o_pickF (v := .bool false) rfl rfl rfl) _) rfl ?_
              refine WL_val gd0 ((o_assign (v := .bool false) rfl) _) rfl ?_
              refine WL_nil ?_
              refine nrm ?_
              refine WC_ret ?_
              refine rtE ?_
              exact gv1 rfl rfl h

/-- spacecraft spacecraftlaw09.HistoryNone -/
def F6 (v1 : Int) (w2 : World) (k : Value → World → Prop) : Prop :=
  New w2 44 [.bool false, .int .i64 0, .slice none 0 0, .int .i64 0] (fun p3 w4 => Does Try.prog 12 #[.pointer none, .int .i64 v1] w4 (fun v w5 => ∃ (r6 : Int) (r7 : Bool), v = .tuple #[.int .i64 r6, .bool r7] ∧ Does Try.prog 12 #[.pointer (some p3), .int .i64 v1] w5 (fun v w8 => ∃ (r9 : Int) (r10 : Bool), v = .tuple #[.int .i64 r9, .bool r10] ∧ if r6 ≠ 0 then
  k (.bool false) w8
else
  if r7 = true then
    k (.bool false) w8
  else
    if r9 ≠ 0 then
      k (.bool false) w8
    else
      if r10 = true then
        k (.bool false) w8
      else
        Does Try.prog 10 #[.pointer none, .int .i64 v1] w8 (fun v w15 => ∃ (x16 : Bool), v = .bool x16 ∧ if x16 = true then
          k (.bool false) w15
        else
          Does Try.prog 10 #[.pointer (some p3), .int .i64 v1] w15 (fun v w18 => ∃ (x19 : Bool), v = .bool x19 ∧ if x19 = true then
            k (.bool false) w18
          else
            Does Try.prog 18 #[.pointer none] w18 (fun v w21 => ∃ (x22 : Option Addr), v = .pointer x22 ∧ if (!(x22).isNone) = true then
              k (.bool false) w21
            else
              Does Try.prog 18 #[.pointer (some p3)] w21 (fun v w24 => ∃ (x25 : Option Addr), v = .pointer x25 ∧ if (!(x25).isNone) = true then
                k (.bool false) w24
              else
                Does Try.prog 16 #[.pointer none] w24 (fun v w27 => ∃ (x_a28 : Option Addr) (x_n29 x_c30 : Nat), v = .slice x_a28 x_n29 x_c30 ∧ Does Try.prog 16 #[.pointer (some p3)] w27 (fun v w31 => ∃ (x_a32 : Option Addr) (x_n33 x_c34 : Nat), v = .slice x_a32 x_n33 x_c34 ∧ Does Try.prog 19 #[.pointer none] w31 (fun v w35 => ∃ (x36 : Int), v = .int .i64 x36 ∧ Does Try.prog 19 #[.pointer (some p3)] w35 (fun v w37 => ∃ (x38 : Int), v = .int .i64 x38 ∧ Does Try.prog 17 #[.pointer none] w37 (fun v w39 => ∃ (x40 : Int), v = .int .i64 x40 ∧ Does Try.prog 17 #[.pointer (some p3)] w39 (fun v w41 => ∃ (x42 : Int), v = .int .i64 x42 ∧ if (IntKind.i64.wrap ((IntKind.i64.wrap ((IntKind.i64.wrap ((IntKind.i64.wrap ((IntKind.i64.wrap ((x_n29 : Int) + (x_n33 : Int))) + x36)) + x38)) + x40)) + x42)) = 0 then
                  Does Try.prog 9 #[] w41 (fun v w44 => ∃ (x45 : Bool), v = .bool x45 ∧ k (.bool x45) w44)
                else
                  k (.bool false) w41)))))))))))))
set_option maxRecDepth 100000 in
set_option maxHeartbeats 2000000 in
theorem w6 (v1 : Int) (w2 : World) (k : Value → World → Prop) (h : F6 v1 w2 k) : Does Try.prog 6 #[.int .i64 v1] w2 k := by
  refine enter 70 Try.func6 rfl rfl rfl ?_
  intro ρ hρ
  have e0 := hρ 0 _ rfl
  unfold F6 at h
  refine WC_seq ?_
  refine WC_region ?_
  refine WL_val gd0 ((o_assign (v := .bool false) rfl) _) rfl ?_
  refine WL_nil ?_
  refine nrm ?_
  refine WC_seq ?_
  refine WC_region ?_
  refine WL_val gd0 ((o_assign (v := .pointer none) rfl) _) rfl ?_
  refine WL_nil ?_
  refine nrm ?_
  refine WC_seq ?_
  refine WC_region ?_
  have h := New.out h
  refine WL_val gd0 (o_alloc (z := .agg #[.bool false, .int .i64 0, .slice none 0 0, .int .i64 0]) (cs := [.bool false, .int .i64 0, .slice none 0 0, .int .i64 0]) Try.zeroValue44 rfl) rfl ?_
  generalize hp3 : fresh w2 = p3 at h ⊢
  generalize hw4 : push w2 44 [.bool false, .int .i64 0, .slice none 0 0, .int .i64 0] = w4 at h ⊢
  try dsimp only at h
  refine WL_nil ?_
  refine nrm ?_
  refine WC_seq ?_
  refine WC_region ?_
  refine WL_val gd0 ((o_move (v := .pointer none) rfl) _) rfl ?_
  refine WL_val gd0 ((o_move (v := .int .i64 v1) (by exact e0)) _) rfl ?_
  refine WL_call gd0 (o_call Try.call12 (argCons rfl (argCons rfl argNil)) _) rfl (h.mono ?_)
  rintro _ w5 ⟨r6, r7, rfl, h⟩
  refine WL_val gd0 ((o_move (v := .tuple #[.int .i64 r6, .bool r7]) rfl) _) rfl ?_
  refine WL_val gd0 ((o_extract (vs := [.int .i64 r6, .bool r7]) (r := .int .i64 r6) rfl rfl) _) rfl ?_
  refine WL_val gd0 ((o_extract (vs := [.int .i64 r6, .bool r7]) (r := .bool r7) rfl rfl) _) rfl ?_
  refine WL_val gd0 ((o_assign (v := .int .i64 r6) rfl) _) rfl ?_
  refine WL_val gd0 ((o_assign (v := .bool r7) rfl) _) rfl ?_
  refine WL_nil ?_
  refine nrm ?_
  refine WC_seq ?_
  refine WC_region ?_
  refine WL_val gd0 ((o_move (v := .int .i64 v1) (by exact e0)) _) rfl ?_
  refine WL_call gd0 (o_call Try.call12 (argCons rfl (argCons rfl argNil)) _) rfl (h.mono ?_)
  rintro _ w8 ⟨r9, r10, rfl, h⟩
  refine WL_val gd0 ((o_move (v := .tuple #[.int .i64 r9, .bool r10]) rfl) _) rfl ?_
  refine WL_val gd0 ((o_extract (vs := [.int .i64 r9, .bool r10]) (r := .int .i64 r9) rfl rfl) _) rfl ?_
  refine WL_val gd0 ((o_extract (vs := [.int .i64 r9, .bool r10]) (r := .bool r10) rfl rfl) _) rfl ?_
  refine WL_val gd0 ((o_assign (v := .int .i64 r9) rfl) _) rfl ?_
  refine WL_val gd0 ((o_assign (v := .bool r10) rfl) _) rfl ?_
  refine WL_nil ?_
  refine nrm ?_
  refine WC_seq ?_
  refine WC_seq ?_
  refine WC_region ?_
  refine WL_val gd0 ((o_move (v := .int .i64 r6) rfl) _) rfl ?_
  refine WL_val gd0 ((o_neq rfl rfl) _) rfl ?_
  refine WL_val gd0 ((o_move (v := .bool (decide (r6 ≠ 0))) rfl) _) rfl ?_
  refine bsplit (decide (r6 ≠ 0)) (fun hb11 => ?_) (fun hb11 => ?_)
  · rw [if_pos (of_decide_eq_true hb11)] at h
    refine WL_skip (gdN (b := (decide (r6 ≠ 0))) 22 rfl rfl hb11) rfl ?_
    refine WL_val gd0 ((o_pickT (v := .bool true) rfl hb11 rfl) _) rfl ?_
    refine WL_val gd0 ((o_move (v := .bool true) rfl) _) rfl ?_
    refine WL_skip (gdN (b := true) 25 rfl rfl rfl) rfl ?_
    refine WL_skip (gdN (b := true) 25 rfl rfl rfl) rfl ?_
    refine WL_val gd0 ((o_pickT (v := .bool true) rfl rfl rfl) _) rfl ?_
    refine WL_val gd0 ((o_move (v := .bool true) rfl) _) rfl ?_
    refine WL_skip (gdN (b := true) 29 rfl rfl rfl) rfl ?_
    refine WL_val gd0 ((o_pickT (v := .bool true) rfl rfl rfl) _) rfl ?_
    refine WL_val gd0 ((o_move (v := .bool true) rfl) _) rfl ?_
    refine WL_skip (gdN (b := true) 32 rfl rfl rfl) rfl ?_
    refine WL_skip (gdN (b := true) 32 rfl rfl rfl) rfl ?_
    refine WL_skip (gdN (b := true) 32 rfl rfl rfl) rfl ?_
    refine WL_val gd0 ((o_pickT (v := .bool true) rfl rfl rfl) _) rfl ?_
    refine WL_val gd0 ((o_move (v := .bool true) rfl) _) rfl ?_
    refine WL_skip (gdN (b := true) 37 rfl rfl rfl) rfl ?_
    refine WL_skip (gdN (b := true) 37 rfl rfl rfl) rfl ?_
    refine WL_val gd0 ((o_pickT (v := .bool true) rfl rfl rfl) _) rfl ?_
    refine WL_val gd0 ((o_move (v := .bool true) rfl) _) rfl ?_
    refine WL_skip (gdN (b := true) 41 rfl rfl rfl) rfl ?_
    refine WL_skip (gdN (b := true) 41 rfl rfl rfl) rfl ?_
    refine WL_skip (gdN (b := true) 41 rfl rfl rfl) rfl ?_
    refine WL_val gd0 ((o_pickT (v := .bool true) rfl rfl rfl) _) rfl ?_
    refine WL_val gd0 ((o_move (v := .bool true) rfl) _) rfl ?_
    refine WL_skip (gdN (b := true) 46 rfl rfl rfl) rfl ?_
    refine WL_skip (gdN (b := true) 46 rfl rfl rfl) rfl ?_
    refine WL_val gd0 ((o_pickT (v := .bool true) rfl rfl rfl) _) rfl ?_
    refine WL_nil ?_
    refine nrm ?_
    refine WC_cond (t := true) rfl (fun _ => ?_) (fun hx => by rw [(rfl : true = true)] at hx; cases hx)
    refine WC_seq ?_
    refine WC_region ?_
    refine WL_val gd0 ((o_assign (v := .bool false) rfl) _) rfl ?_
    refine WL_nil ?_
    refine nrm ?_
    refine WC_ret ?_
    refine rtT ?_
    refine rtE ?_
    exact gv1 rfl rfl h
  · rw [if_neg (of_decide_eq_false hb11)] at h
    refine WL_val (gdY (b := (decide (r6 ≠ 0))) 22 rfl rfl hb11) ((o_move (v := .bool r7) rfl) _) rfl ?_
    refine WL_val gd0 ((o_pickF (v := .bool r7) rfl hb11 rfl) _) rfl ?_
    refine WL_val gd0 ((o_move (v := .bool r7) rfl) _) rfl ?_
    refine bsplit r7 (fun hb12 => ?_) (fun hb12 => ?_)
    · rw [if_pos hb12] at h
      refine WL_skip (gdN (b := r7) 25 rfl rfl hb12) rfl ?_
      refine WL_skip (gdN (b := r7) 25 rfl rfl hb12) rfl ?_
      refine WL_val gd0 ((o_pickT (v := .bool true) rfl hb12 rfl) _) rfl ?_
      refine WL_val gd0 ((o_move (v := .bool true) rfl) _) rfl ?_
      refine WL_skip (gdN (b := true) 29 rfl rfl rfl) rfl ?_
      refine WL_val gd0 ((o_pickT (v := .bool true) rfl rfl rfl) _) rfl ?_
      refine WL_val gd0 ((o_move (v := .bool true) rfl) _) rfl ?_
      refine WL_skip (gdN (b := true) 32 rfl rfl rfl) rfl ?_
      refine WL_skip (gdN (b := true) 32 rfl rfl rfl) rfl ?_
      refine WL_skip (gdN (b := true) 32 rfl rfl rfl) rfl ?_
      refine WL_val gd0 ((o_pickT (v := .bool true) rfl rfl rfl) _) rfl ?_
      refine WL_val gd0 ((o_move (v := .bool true) rfl) _) rfl ?_
      refine WL_skip (gdN (b := true) 37 rfl rfl rfl) rfl ?_
      refine WL_skip (gdN (b := true) 37 rfl rfl rfl) rfl ?_
      refine WL_val gd0 ((o_pickT (v := .bool true) rfl rfl rfl) _) rfl ?_
      refine WL_val gd0 ((o_move (v := .bool true) rfl) _) rfl ?_
      refine WL_skip (gdN (b := true) 41 rfl rfl rfl) rfl ?_
      refine WL_skip (gdN (b := true) 41 rfl rfl rfl) rfl ?_
      refine WL_skip (gdN (b := true) 41 rfl rfl rfl) rfl ?_
      refine WL_val gd0 ((o_pickT (v := .bool true) rfl rfl rfl) _) rfl ?_
      refine WL_val gd0 ((o_move (v := .bool true) rfl) _) rfl ?_
      refine WL_skip (gdN (b := true) 46 rfl rfl rfl) rfl ?_
      refine WL_skip (gdN (b := true) 46 rfl rfl rfl) rfl ?_
      refine WL_val gd0 ((o_pickT (v := .bool true) rfl rfl rfl) _) rfl ?_
      refine WL_nil ?_
      refine nrm ?_
      refine WC_cond (t := true) rfl (fun _ => ?_) (fun hx => by rw [(rfl : true = true)] at hx; cases hx)
      refine WC_seq ?_
      refine WC_region ?_
      refine WL_val gd0 ((o_assign (v := .bool false) rfl) _) rfl ?_
      refine WL_nil ?_
      refine nrm ?_
      refine WC_ret ?_
      refine rtT ?_
      refine rtE ?_
      exact gv1 rfl rfl h
    · rw [if_neg (neT hb12)] at h
      refine WL_val (gdY (b := r7) 25 rfl rfl hb12) ((o_move (v := .int .i64 r9) rfl) _) rfl ?_
      refine WL_val (gdY (b := r7) 25 rfl rfl hb12) ((o_neq rfl rfl) _) rfl ?_
      refine WL_val gd0 ((o_pickF (v := .bool (decide (r9 ≠ 0))) rfl hb12 rfl) _) rfl ?_
      refine WL_val gd0 ((o_move (v := .bool (decide (r9 ≠ 0))) rfl) _) rfl ?_
      refine bsplit (decide (r9 ≠ 0)) (fun hb13 => ?_) (fun hb13 => ?_)
      · rw [if_pos (of_decide_eq_true hb13)] at h
        refine WL_skip (gdN (b := (decide (r9 ≠ 0))) 29 rfl rfl hb13) rfl ?_
        refine WL_val gd0 ((o_pickT (v := .bool true) rfl hb13 rfl) _) rfl ?_
        refine WL_val gd0 ((o_move (v := .bool true) rfl) _) rfl ?_
        refine WL_skip (gdN (b := true) 32 rfl rfl rfl) rfl ?_
        refine WL_skip (gdN (b := true) 32 rfl rfl rfl) rfl ?_
        refine WL_skip (gdN (b := true) 32 rfl rfl rfl) rfl ?_
        refine WL_val gd0 ((o_pickT (v := .bool true) rfl rfl rfl) _) rfl ?_
        refine WL_val gd0 ((o_move (v := .bool true) rfl) _) rfl ?_
        refine WL_skip (gdN (b := true) 37 rfl rfl rfl) rfl ?_
        refine WL_skip (gdN (b := true) 37 rfl rfl rfl) rfl ?_
        refine WL_val gd0 ((o_pickT (v := .bool true) rfl rfl rfl) _) rfl ?_
        refine WL_val gd0 ((o_move (v := .bool true) rfl) _) rfl ?_
        refine WL_skip (gdN (b := true) 41 rfl rfl rfl) rfl ?_
        refine WL_skip (gdN (b := true) 41 rfl rfl rfl) rfl ?_
        refine WL_skip (gdN (b := true) 41 rfl rfl rfl) rfl ?_
        refine WL_val gd0 ((o_pickT (v := .bool true) rfl rfl rfl) _) rfl ?_
        refine WL_val gd0 ((o_move (v := .bool true) rfl) _) rfl ?_
        refine WL_skip (gdN (b := true) 46 rfl rfl rfl) rfl ?_
        refine WL_skip (gdN (b := true) 46 rfl rfl rfl) rfl ?_
        refine WL_val gd0 ((o_pickT (v := .bool true) rfl rfl rfl) _) rfl ?_
        refine WL_nil ?_
        refine nrm ?_
        refine WC_cond (t := true) rfl (fun _ => ?_) (fun hx => by rw [(rfl : true = true)] at hx; cases hx)
        refine WC_seq ?_
        refine WC_region ?_
        refine WL_val gd0 ((o_assign (v := .bool false) rfl) _) rfl ?_
        refine WL_nil ?_
        refine nrm ?_
        refine WC_ret ?_
        refine rtT ?_
        refine rtE ?_
        exact gv1 rfl rfl h
      · rw [if_neg (of_decide_eq_false hb13)] at h
        refine WL_val (gdY (b := (decide (r9 ≠ 0))) 29 rfl rfl hb13) ((o_move (v := .bool r10) rfl) _) rfl ?_
        refine WL_val gd0 ((o_pickF (v := .bool r10) rfl hb13 rfl) _) rfl ?_
        refine WL_val gd0 ((o_move (v := .bool r10) rfl) _) rfl ?_
        refine bsplit r10 (fun hb14 => ?_) (fun hb14 => ?_)
        · rw [if_pos hb14] at h
          refine WL_skip (gdN (b := r10) 32 rfl rfl hb14) rfl ?_
          refine WL_skip (gdN (b := r10) 32 rfl rfl hb14) rfl ?_
          refine WL_skip (gdN (b := r10) 32 rfl rfl hb14) rfl ?_
          refine WL_val gd0 ((o_pickT (v := .bool true) rfl hb14 rfl) _) rfl ?_
          refine WL_val gd0 ((o_move (v := .bool true) rfl) _) rfl ?_
          refine WL_skip (gdN (b := true) 37 rfl rfl rfl) rfl ?_
          refine WL_skip (gdN (b := true) 37 rfl rfl rfl) rfl ?_
          refine WL_val gd0 ((o_pickT (v := .bool true) rfl rfl rfl) _) rfl ?_
          refine WL_val gd0 ((o_move (v := .bool true) rfl) _) rfl ?_
          refine WL_skip (gdN (b := true) 41 rfl rfl rfl) rfl ?_
          refine WL_skip (gdN (b := true) 41 rfl rfl rfl) rfl ?_
          refine WL_skip (gdN (b := true) 41 rfl rfl rfl) rfl ?_
          refine WL_val gd0 ((o_pickT (v := .bool true) rfl rfl rfl) _) rfl ?_
          refine WL_val gd0 ((o_move (v := .bool true) rfl) _) rfl ?_
          refine WL_skip (gdN (b := true) 46 rfl rfl rfl) rfl ?_
          refine WL_skip (gdN (b := true) 46 rfl rfl rfl) rfl ?_
          refine WL_val gd0 ((o_pickT (v := .bool true) rfl rfl rfl) _) rfl ?_
          refine WL_nil ?_
          refine nrm ?_
          refine WC_cond (t := true) rfl (fun _ => ?_) (fun hx => by rw [(rfl : true = true)] at hx; cases hx)
          refine WC_seq ?_
          refine WC_region ?_
          refine WL_val gd0 ((o_assign (v := .bool false) rfl) _) rfl ?_
          refine WL_nil ?_
          refine nrm ?_
          refine WC_ret ?_
          refine rtT ?_
          refine rtE ?_
          exact gv1 rfl rfl h
        · rw [if_neg (neT hb14)] at h
          refine WL_val (gdY (b := r10) 32 rfl rfl hb14) ((o_move (v := .pointer none) rfl) _) rfl ?_
          refine WL_val (gdY (b := r10) 32 rfl rfl hb14) ((o_move (v := .int .i64 v1) (by exact e0)) _) rfl ?_
          refine WL_call (gdY (b := r10) 32 rfl rfl hb14) (o_call Try.call10 (argCons rfl (argCons rfl argNil)) _) rfl (h.mono ?_)
          rintro _ w15 ⟨x16, rfl, h⟩
          refine WL_val gd0 ((o_pickF (v := .bool x16) rfl hb14 rfl) _) rfl ?_
          refine WL_val gd0 ((o_move (v := .bool x16) rfl) _) rfl ?_
          refine bsplit x16 (fun hb17 => ?_) (fun hb17 => ?_)
          · rw [if_pos hb17] at h
            refine WL_skip (gdN (b := x16) 37 rfl rfl hb17) rfl ?_
            refine WL_skip (gdN (b := x16) 37 rfl rfl hb17) rfl ?_
            refine WL_val gd0 ((o_pickT (v := .bool true) rfl hb17 rfl) _) rfl ?_
            refine WL_val gd0 ((o_move (v := .bool true) rfl) _) rfl ?_
            refine WL_skip (gdN (b := true) 41 rfl rfl rfl) rfl ?_
            refine WL_skip (gdN (b := true) 41 rfl rfl rfl) rfl ?_
            refine WL_skip (gdN (b := true) 41 rfl rfl rfl) rfl ?_
            refine WL_val gd0 ((o_pickT (v := .bool true) rfl rfl rfl) _) rfl ?_
            refine WL_val gd0 ((o_move (v := .bool true) rfl) _) rfl ?_
            refine WL_skip (gdN (b := true) 46 rfl rfl rfl) rfl ?_
            refine WL_skip (gdN (b := true) 46 rfl rfl rfl) rfl ?_
            refine WL_val gd0 ((o_pickT (v := .bool true) rfl rfl rfl) _) rfl ?_
            refine WL_nil ?_
            refine nrm ?_
            refine WC_cond (t := true) rfl (fun _ => ?_) (fun hx => by rw [(rfl : true = true)] at hx; cases hx)
            refine WC_seq ?_
            refine WC_region ?_
            refine WL_val gd0 ((o_assign (v := .bool false) rfl) _) rfl ?_
            refine WL_nil ?_
            refine nrm ?_
            refine WC_ret ?_
            refine rtT ?_
            refine rtE ?_
            exact gv1 rfl rfl h
          · rw [if_neg (neT hb17)] at h
            refine WL_val (gdY (b := x16) 37 rfl rfl hb17) ((o_move (v := .int .i64 v1) (by exact e0)) _) rfl ?_
            refine WL_call (gdY (b := x16) 37 rfl rfl hb17) (o_call Try.call10 (argCons rfl (argCons rfl argNil)) _) rfl (h.mono ?_)
            rintro _ w18 ⟨x19, rfl, h⟩
            refine WL_val gd0 ((o_pickF (v := .bool x19) rfl hb17 rfl) _) rfl ?_
            refine WL_val gd0 ((o_move (v := .bool x19) rfl) _) rfl ?_
            refine bsplit x19 (fun hb20 => ?_) (fun hb20 => ?_)
            · rw [if_pos hb20] at h
              refine WL_skip (gdN (b := x19) 41 rfl rfl hb20) rfl ?_
              refine WL_skip (gdN (b := x19) 41 rfl rfl hb20) rfl ?_
              refine WL_skip (gdN (b := x19) 41 rfl rfl hb20) rfl ?_
              refine WL_val gd0 ((o_pickT (v := .bool true) rfl hb20 rfl) _) rfl ?_
              refine WL_val gd0 ((o_move (v := .bool true) rfl) _) rfl ?_
              refine WL_skip (gdN (b := true) 46 rfl rfl rfl) rfl ?_
              refine WL_skip (gdN (b := true) 46 rfl rfl rfl) rfl ?_
              refine WL_val gd0 ((o_pickT (v := .bool true) rfl rfl rfl) _) rfl ?_
              refine WL_nil ?_
              refine nrm ?_
              refine WC_cond (t := true) rfl (fun _ => ?_) (fun hx => by rw [(rfl : true = true)] at hx; cases hx)
              refine WC_seq ?_
              refine WC_region ?_
              refine WL_val gd0 ((o_assign (v := .bool false) rfl) _) rfl ?_
              refine WL_nil ?_
              refine nrm ?_
              refine WC_ret ?_
              refine rtT ?_
              refine rtE ?_
              exact gv1 rfl rfl h
            · rw [if_neg (neT hb20)] at h
              refine WL_val (gdY (b := x19) 41 rfl rfl hb20) ((o_move (v := .pointer none) rfl) _) rfl ?_
              refine WL_call (gdY (b := x19) 41 rfl rfl hb20) (o_call Try.call18 (argCons rfl argNil) _) rfl (h.mono ?_)
              rintro _ w21 ⟨x22, rfl, h⟩
              refine WL_val (gdY (b := x19) 41 rfl rfl hb20) ((o_neqPtrNil Try.underlying23 rfl rfl) _) rfl ?_
              refine WL_val gd0 ((o_pickF (v := .bool (!(x22).isNone)) rfl hb20 rfl) _) rfl ?_
              refine WL_val gd0 ((o_move (v := .bool (!(x22).isNone)) rfl) _) rfl ?_
              refine bsplit (!(x22).isNone) (fun hb23 => ?_) (fun hb23 => ?_)
              · rw [if_pos hb23] at h
                refine WL_skip (gdN (b := (!(x22).isNone)) 46 rfl rfl hb23) rfl ?_
                refine WL_skip (gdN (b := (!(x22).isNone)) 46 rfl rfl hb23) rfl ?_
                refine WL_val gd0 ((o_pickT (v := .bool true) rfl hb23 rfl) _) rfl ?_
                refine WL_nil ?_
                refine nrm ?_
                refine WC_cond (t := true) rfl (fun _ => ?_) (fun hx => by rw [(rfl : true = true)] at hx; cases hx)
                refine WC_seq ?_
                refine WC_region ?_
                refine WL_val gd0 ((o_assign (v := .bool false) rfl) _) rfl ?_
                refine WL_nil ?_
                refine nrm ?_
                refine WC_ret ?_
                refine rtT ?_
                refine rtE ?_
                exact gv1 rfl rfl h
              · rw [if_neg (neT hb23)] at h
                refine WL_call (gdY (b := (!(x22).isNone)) 46 rfl rfl hb23) (o_call Try.call18 (argCons rfl argNil) _) rfl (h.mono ?_)
                rintro _ w24 ⟨x25, rfl, h⟩
                refine WL_val (gdY (b := (!(x22).isNone)) 46 rfl rfl hb23) ((o_neqPtrNil Try.underlying23 rfl rfl) _) rfl ?_
                refine WL_val gd0 ((o_pickF (v := .bool (!(x25).isNone)) rfl hb23 rfl) _) rfl ?_
                refine WL_nil ?_
                refine nrm ?_
                refine WC_cond (t := (!(x25).isNone)) rfl (fun hb26 => ?_) (fun hb26 => ?_)
                · rw [if_pos hb26] at h
                  refine WC_seq ?_
                  refine WC_region ?_
                  refine WL_val gd0 ((o_assign (v := .bool false) rfl) _) rfl ?_
                  refine WL_nil ?_
                  refine nrm ?_
                  refine WC_ret ?_
                  refine rtT ?_
                  refine rtE ?_
                  exact gv1 rfl rfl h
                · rw [if_neg (neT hb26)] at h
                  refine WC_skip ?_
                  refine nrm ?_
                  refine WC_seq ?_
                  refine WC_region ?_
                  refine WL_val gd0 ((o_move (v := .pointer none) rfl) _) rfl ?_
                  refine WL_call gd0 (o_call Try.call16 (argCons rfl argNil) _) rfl (h.mono ?_)
                  rintro _ w27 ⟨x_a28, x_n29, x_c30, rfl, h⟩
                  refine WL_val gd0 ((o_len Try.underlying25 rfl) _) rfl ?_
                  refine WL_call gd0 (o_call Try.call16 (argCons rfl argNil) _) rfl (h.mono ?_)
                  rintro _ w31 ⟨x_a32, x_n33, x_c34, rfl, h⟩
                  refine WL_val gd0 ((o_len Try.underlying25 rfl) _) rfl ?_
                  refine WL_val gd0 ((o_add rfl rfl) _) rfl ?_
                  refine WL_val gd0 ((o_move (v := .pointer none) rfl) _) rfl ?_
                  refine WL_call gd0 (o_call Try.call19 (argCons rfl argNil) _) rfl (h.mono ?_)
                  rintro _ w35 ⟨x36, rfl, h⟩
                  refine WL_val gd0 ((o_add rfl rfl) _) rfl ?_
                  refine WL_call gd0 (o_call Try.call19 (argCons rfl argNil) _) rfl (h.mono ?_)
                  rintro _ w37 ⟨x38, rfl, h⟩
                  refine WL_val gd0 ((o_add rfl rfl) _) rfl ?_
                  refine WL_val gd0 ((o_move (v := .pointer none) rfl) _) rfl ?_
                  refine WL_call gd0 (o_call Try.call17 (argCons rfl argNil) _) rfl (h.mono ?_)
                  rintro _ w39 ⟨x40, rfl, h⟩
                  refine WL_val gd0 ((o_add rfl rfl) _) rfl ?_
                  refine WL_call gd0 (o_call Try.call17 (argCons rfl argNil) _) rfl (h.mono ?_)
                  rintro _ w41 ⟨x42, rfl, h⟩
                  refine WL_val gd0 ((o_add rfl rfl) _) rfl ?_
                  refine WL_val gd0 ((o_eql rfl rfl) _) rfl ?_
                  refine WL_val gd0 ((o_move (v := .bool (decide ((IntKind.i64.wrap ((IntKind.i64.wrap ((IntKind.i64.wrap ((IntKind.i64.wrap ((IntKind.i64.wrap ((x_n29 : Int) + (x_n33 : Int))) + x36)) + x38)) + x40)) + x42)) = 0))) rfl) _) rfl ?_
                  refine bsplit (decide ((IntKind.i64.wrap ((IntKind.i64.wrap ((IntKind.i64.wrap ((IntKind.i64.wrap ((IntKind.i64.wrap ((x_n29 : Int) + (x_n33 : Int))) + x36)) + x38)) + x40)) + x42)) = 0)) (fun hb43 => ?_) (fun hb43 => ?_)
                  · rw [if_pos (of_decide_eq_true hb43)] at h
                    refine WL_call (gdY (b := (decide ((IntKind.i64.wrap ((IntKind.i64.wrap ((IntKind.i64.wrap ((IntKind.i64.wrap ((IntKind.i64.wrap ((x_n29 : Int) + (x_n33 : Int))) + x36)) + x38)) + x40)) + x42)) = 0))) 67 rfl rfl hb43) (o_call Try.call9 argNil _) rfl (h.mono ?_)
                    rintro _ w44 ⟨x45, rfl, h⟩
                    refine WL_val gd0 ((o_pickT (v := .bool x45) rfl hb43 rfl) _) rfl ?_
                    refine WL_val gd0 ((o_assign (v := .bool x45) rfl) _) rfl ?_
                    refine WL_nil ?_
                    refine nrm ?_
                    refine WC_ret ?_
                    refine rtE ?_
                    exact gv1 rfl rfl h
                  · rw [if_neg (of_decide_eq_false hb43)] at h
                    refine WL_skip (gdN (b := (decide ((IntKind.i64.wrap ((IntKind.i64.wrap ((IntKind.i64.wrap ((IntKind.i64.wrap ((IntKind.i64.wrap ((x_n29 : Int) + (x_n33 : Int))) + x36)) + x38)) + x40)) + x42)) = 0))) 67 rfl rfl hb43) rfl ?_
                    refine WL_val gd0 ((o_pickF (v := .bool false) rfl hb43 rfl) _) rfl ?_
                    refine WL_val gd0 ((o_assign (v := .bool false) rfl) _) rfl ?_
                    refine WL_nil ?_
                    refine nrm ?_
                    refine WC_ret ?_
                    refine rtE ?_
                    exact gv1 rfl rfl h

/-- spacecraft history.New -/
def F7 (most1 : Int) (w2 : World) (k : Value → World → Prop) : Prop :=
  New w2 44 [.bool true, .int .i64 (min (max most1 0) 256), .slice none 0 0, .int .i64 0] (fun p3 w4 => k (.pointer (some p3)) w4)
set_option maxRecDepth 100000 in
set_option maxHeartbeats 2000000 in
theorem w7 (most1 : Int) (w2 : World) (k : Value → World → Prop) (h : F7 most1 w2 k) : Does Try.prog 7 #[.int .i64 most1] w2 k := by
  refine enter 8 Try.func7 rfl rfl rfl ?_
  intro ρ hρ
  have e0 := hρ 0 _ rfl
  unfold F7 at h
  refine WC_seq ?_
  refine WC_region ?_
  refine WL_val gd0 ((o_assign (v := .pointer none) rfl) _) rfl ?_
  refine WL_nil ?_
  refine nrm ?_
  refine WC_seq ?_
  refine WC_region ?_
  refine WL_val gd0 ((o_move (v := .int .i64 most1) (by exact e0)) _) rfl ?_
  refine WL_val gd0 ((o_max2 rfl rfl) _) rfl ?_
  refine WL_val gd0 ((o_min2 rfl rfl) _) rfl ?_
  refine WL_val gd0 ((o_build (ps := [(0, .bool true), (1, .int .i64 (min (max most1 0) 256))]) (v := .agg #[.bool true, .int .i64 (min (max most1 0) 256), .slice none 0 0, .int .i64 0]) (partCons rfl (partCons rfl partNil)) (fun w => by kernel_rfl)) _) rfl ?_
  have h := New.out h
  refine WL_val gd0 (o_box (v := .agg #[.bool true, .int .i64 (min (max most1 0) 256), .slice none 0 0, .int .i64 0]) (cs := [.bool true, .int .i64 (min (max most1 0) 256), .slice none 0 0, .int .i64 0]) rfl rfl) rfl ?_
  generalize hp3 : fresh w2 = p3 at h ⊢
  generalize hw4 : push w2 44 [.bool true, .int .i64 (min (max most1 0) 256), .slice none 0 0, .int .i64 0] = w4 at h ⊢
  try dsimp only at h
  refine WL_val gd0 ((o_assign (v := .pointer (some p3)) rfl) _) rfl ?_
  refine WL_nil ?_
  refine nrm ?_
  refine WC_ret ?_
  refine rtE ?_
  exact gv1 rfl rfl h

def F8_j1 (p3 : Addr) (most6 : Int) (w8 : World) (k : Value → World → Prop) : Prop :=
  if 256 < most6 then
  PutAll w8 p3 [.int .i64 256, .int .i64 0, .slice none 0 0] (fun w10 => ∃ (r12 r13 : Int) (r_a14 : Option Addr) (r_n15 r_c16 : Nat), Cells w10 p3 0 [.int .i64 r12, .int .i64 r13, .slice r_a14 r_n15 r_c16] ∧ k (.agg #[.int .i64 r12, .int .i64 r13, .slice r_a14 r_n15 r_c16]) w10)
else
  PutAll w8 p3 [.int .i64 most6, .int .i64 0, .slice none 0 0] (fun w18 => ∃ (r20 r21 : Int) (r_a22 : Option Addr) (r_n23 r_c24 : Nat), Cells w18 p3 0 [.int .i64 r20, .int .i64 r21, .slice r_a22 r_n23 r_c24] ∧ k (.agg #[.int .i64 r20, .int .i64 r21, .slice r_a22 r_n23 r_c24]) w18)
/-- spacecraft spacecraftref09.New -/
def F8 (most1 : Int) (w2 : World) (k : Value → World → Prop) : Prop :=
  New w2 27 [.int .i64 0, .int .i64 0, .slice none 0 0] (fun p3 w4 => if most1 < 0 then
  F8_j1 p3 0 w4 k
else
  F8_j1 p3 most1 w4 k)
set_option maxRecDepth 100000 in
set_option maxHeartbeats 2000000 in
theorem w8 (most1 : Int) (w2 : World) (k : Value → World → Prop) (h : F8 most1 w2 k) : Does Try.prog 8 #[.int .i64 most1] w2 k := by
  refine enter 9 Try.func8 rfl rfl rfl ?_
  intro ρ hρ
  have e0 := hρ 0 _ rfl
  unfold F8 at h
  refine WC_seq ?_
  refine WC_region ?_
  have h := New.out h
  refine WL_val gd0 (o_alloc (z := .agg #[.int .i64 0, .int .i64 0, .slice none 0 0]) (cs := [.int .i64 0, .int .i64 0, .slice none 0 0]) Try.zeroValue27 rfl) rfl ?_
  generalize hp3 : fresh w2 = p3 at h ⊢
  generalize hw4 : push w2 27 [.int .i64 0, .int .i64 0, .slice none 0 0] = w4 at h ⊢
  try dsimp only at h
  refine WL_nil ?_
  refine nrm ?_
  refine WC_cut (fun ρ w' => ∃ (most6 : Int), ρ 0 = .int .i64 most6 ∧ ρ 2 = .pointer (some p3) ∧ F8_j1 p3 most6 w' k) ?_ ?_
  · refine WC_seq ?_
    refine WC_region ?_
    refine WL_val gd0 ((o_move (v := .int .i64 most1) (by exact e0)) _) rfl ?_
    refine WL_val gd0 ((o_lss rfl rfl) _) rfl ?_
    refine WL_nil ?_
    refine nrm ?_
    refine WC_cond (t := (decide (most1 < 0))) rfl (fun hb26 => ?_) (fun hb26 => ?_)
    · rw [if_pos (of_decide_eq_true hb26)] at h
      refine WC_region ?_
      refine WL_val gd0 ((o_assign (v := .int .i64 0) rfl) _) rfl ?_
      refine WL_nil ?_
      refine nrm ?_
      exact ⟨_, rfl, rfl, h⟩
    · rw [if_neg (of_decide_eq_false hb26)] at h
      refine WC_skip ?_
      refine nrm ?_
      exact ⟨_, e0, rfl, h⟩
  · rintro ρ w8 ⟨most6, e0_5, e2_7, h⟩
    unfold F8_j1 at h
    refine WC_seq ?_
    refine WC_seq ?_
    refine WC_region ?_
    refine WL_val gd0 ((o_move (v := .int .i64 most6) (by exact e0_5)) _) rfl ?_
    refine WL_val gd0 ((o_gtr rfl rfl) _) rfl ?_
    refine WL_nil ?_
    refine nrm ?_
    refine WC_cond (t := (decide (256 < most6))) rfl (fun hb9 => ?_) (fun hb9 => ?_)
    · rw [if_pos (of_decide_eq_true hb9)] at h
      refine WC_region ?_
      refine WL_val gd0 ((o_assign (v := .int .i64 256) rfl) _) rfl ?_
      refine WL_nil ?_
      refine nrm ?_
      refine WC_seq ?_
      refine WC_region ?_
      refine WL_val gd0 ((o_move (v := .int .i64 256) rfl) _) rfl ?_
      refine WL_val gd0 ((o_build (ps := [(0, .int .i64 256)]) (v := .agg #[.int .i64 256, .int .i64 0, .slice none 0 0]) (partCons rfl partNil) (fun w => by kernel_rfl)) _) rfl ?_
      obtain ⟨c11, h⟩ := h
      refine WL_act gd0 (o_storeAgg (vs := [.int .i64 256, .int .i64 0, .slice none 0 0]) Try.sizeOf27 (by exact e2_7) rfl rfl c11) ?_
      generalize hw10 : setAll w8 p3 0 [.int .i64 256, .int .i64 0, .slice none 0 0] = w10 at h ⊢
      try dsimp only at h
      refine WL_nil ?_
      refine nrm ?_
      refine WC_ret ?_
      refine rtE ?_
      obtain ⟨r12, r13, r_a14, r_n15, r_c16, hc17, h⟩ := h
      exact gvC (vs := [.int .i64 r12, .int .i64 r13, .slice r_a14 r_n15 r_c16]) rfl Try.isAgg27 Try.sizeOf27 (by exact e2_7) hc17 h
    · rw [if_neg (of_decide_eq_false hb9)] at h
      refine WC_skip ?_
      refine nrm ?_
      refine WC_seq ?_
      refine WC_region ?_
      refine WL_val gd0 ((o_move (v := .int .i64 most6) (by exact e0_5)) _) rfl ?_
      refine WL_val gd0 ((o_build (ps := [(0, .int .i64 most6)]) (v := .agg #[.int .i64 most6, .int .i64 0, .slice none 0 0]) (partCons rfl partNil) (fun w => by kernel_rfl)) _) rfl ?_
      obtain ⟨c19, h⟩ := h
      refine WL_act gd0 (o_storeAgg (vs := [.int .i64 most6, .int .i64 0, .slice none 0 0]) Try.sizeOf27 (by exact e2_7) rfl rfl c19) ?_
      generalize hw18 : setAll w8 p3 0 [.int .i64 most6, .int .i64 0, .slice none 0 0] = w18 at h ⊢
      try dsimp only at h
      refine WL_nil ?_
      refine nrm ?_
      refine WC_ret ?_
      refine rtE ?_
      obtain ⟨r20, r21, r_a22, r_n23, r_c24, hc25, h⟩ := h
      exact gvC (vs := [.int .i64 r20, .int .i64 r21, .slice r_a22 r_n23 r_c24]) rfl Try.isAgg27 Try.sizeOf27 (by exact e2_7) hc25 h

/-- spacecraft spacecraftlaw09.lives -/
def F9 (w1 : World) (k : Value → World → Prop) : Prop :=
  Does Try.prog 7 #[.int .i64 2] w1 (fun v w2 => ∃ (x3 : Option Addr), v = .pointer x3 ∧ Does Try.prog 7 #[.int .i64 0] w2 (fun v w4 => ∃ (x5 : Option Addr), v = .pointer x5 ∧ if (x3).isNone = true then
  k (.bool false) w4
else
  if (x5).isNone = true then
    k (.bool false) w4
  else
    Does Try.prog 12 #[.pointer x3, .int .i64 5] w4 (fun v w8 => ∃ (r9 : Int) (r10 : Bool), v = .tuple #[.int .i64 r9, .bool r10] ∧ Does Try.prog 12 #[.pointer x3, .int .i64 6] w8 (fun v w11 => ∃ (r12 : Int) (r13 : Bool), v = .tuple #[.int .i64 r12, .bool r13] ∧ Does Try.prog 12 #[.pointer x3, .int .i64 7] w11 (fun v w14 => ∃ (r15 : Int) (r16 : Bool), v = .tuple #[.int .i64 r15, .bool r16] ∧ Does Try.prog 12 #[.pointer x5, .int .i64 5] w14 (fun v w17 => ∃ (r18 : Int) (r19 : Bool), v = .tuple #[.int .i64 r18, .bool r19] ∧ if (!r10) = true then
      if (!r13) = true then
        if r15 = 5 then
          if r16 = true then
            Does Try.prog 16 #[.pointer x3] w17 (fun v w24 => ∃ (x_a25 : Option Addr) (x_n26 x_c27 : Nat), v = .slice x_a25 x_n26 x_c27 ∧ New w24 3 [.int .i64 6, .int .i64 7] (fun p28 w29 => Does Try.prog 15 #[.slice x_a25 x_n26 x_c27, .slice (some p28) 2 2] w29 (fun v w30 => ∃ (x31 : Bool), v = .bool x31 ∧ if x31 = true then
              Does Try.prog 10 #[.pointer x3, .int .i64 5] w30 (fun v w33 => ∃ (x34 : Bool), v = .bool x34 ∧ if (!x34) = true then
                Does Try.prog 10 #[.pointer x3, .int .i64 7] w33 (fun v w36 => ∃ (x37 : Bool), v = .bool x37 ∧ if x37 = true then
                  Does Try.prog 17 #[.pointer x3] w36 (fun v w39 => ∃ (x40 : Int), v = .int .i64 x40 ∧ if x40 = 1 then
                    Does Try.prog 19 #[.pointer x3] w39 (fun v w42 => ∃ (x43 : Int), v = .int .i64 x43 ∧ if x43 = 2 then
                      if r18 = 5 then
                        if r19 = true then
                          Does Try.prog 19 #[.pointer x5] w42 (fun v w47 => ∃ (x48 : Int), v = .int .i64 x48 ∧ k (.bool (decide (x48 = 0))) w47)
                        else
                          k (.bool false) w42
                      else
                        k (.bool false) w42
                    else
                      k (.bool false) w42)
                  else
                    k (.bool false) w39)
                else
                  k (.bool false) w36)
              else
                k (.bool false) w33)
            else
              k (.bool false) w30)))
          else
            k (.bool false) w17
        else
          k (.bool false) w17
      else
        k (.bool false) w17
    else
      k (.bool false) w17))))))
set_option maxRecDepth 100000 in
set_option maxHeartbeats 2000000 in
theorem w9 (w1 : World) (k : Value → World → Prop) (h : F9 w1 k) : Does Try.prog 9 #[] w1 k := by
  refine enter 89 Try.func9 rfl rfl rfl ?_
  intro ρ hρ
  unfold F9 at h
  refine WC_seq ?_
  refine WC_region ?_
  refine WL_val gd0 ((o_assign (v := .bool false) rfl) _) rfl ?_
  refine WL_nil ?_
  refine nrm ?_
  refine WC_seq ?_
  refine WC_region ?_
  refine WL_call gd0 (o_call Try.call7 (argCons rfl argNil) _) rfl (h.mono ?_)
  rintro _ w2 ⟨x3, rfl, h⟩
  refine WL_call gd0 (o_call Try.call7 (argCons rfl argNil) _) rfl (h.mono ?_)
  rintro _ w4 ⟨x5, rfl, h⟩
  refine WL_val gd0 ((o_assign (v := .pointer x3) rfl) _) rfl ?_
  refine WL_val gd0 ((o_assign (v := .pointer x5) rfl) _) rfl ?_
  refine WL_nil ?_
  refine nrm ?_
  refine WC_seq ?_
  refine WC_seq ?_
  refine WC_region ?_
  refine WL_val gd0 ((o_move (v := .pointer x3) rfl) _) rfl ?_
  refine WL_val gd0 ((o_eqlPtrNil Try.underlying23 rfl rfl) _) rfl ?_
  refine WL_val gd0 ((o_move (v := .bool ((x3).isNone)) rfl) _) rfl ?_
  refine bsplit ((x3).isNone) (fun hb6 => ?_) (fun hb6 => ?_)
  · rw [if_pos hb6] at h
    refine WL_skip (gdN (b := ((x3).isNone)) 15 rfl rfl hb6) rfl ?_
    refine WL_skip (gdN (b := ((x3).isNone)) 15 rfl rfl hb6) rfl ?_
    refine WL_val gd0 ((o_pickT (v := .bool true) rfl hb6 rfl) _) rfl ?_
    refine WL_nil ?_
    refine nrm ?_
    refine WC_cond (t := true) rfl (fun _ => ?_) (fun hx => by rw [(rfl : true = true)] at hx; cases hx)
    refine WC_seq ?_
    refine WC_region ?_
    refine WL_val gd0 ((o_assign (v := .bool false) rfl) _) rfl ?_
    refine WL_nil ?_
    refine nrm ?_
    refine WC_ret ?_
    refine rtT ?_
    refine rtE ?_
    exact gv1 rfl rfl h
  · rw [if_neg (neT hb6)] at h
    refine WL_val (gdY (b := ((x3).isNone)) 15 rfl rfl hb6) ((o_move (v := .pointer x5) rfl) _) rfl ?_
    refine WL_val (gdY (b := ((x3).isNone)) 15 rfl rfl hb6) ((o_eqlPtrNil Try.underlying23 rfl rfl) _) rfl ?_
    refine WL_val gd0 ((o_pickF (v := .bool ((x5).isNone)) rfl hb6 rfl) _) rfl ?_
    refine WL_nil ?_
    refine nrm ?_
    refine WC_cond (t := ((x5).isNone)) rfl (fun hb7 => ?_) (fun hb7 => ?_)
    · rw [if_pos hb7] at h
      refine WC_seq ?_
      refine WC_region ?_
      refine WL_val gd0 ((o_assign (v := .bool false) rfl) _) rfl ?_
      refine WL_nil ?_
      refine nrm ?_
      refine WC_ret ?_
      refine rtT ?_
      refine rtE ?_
      exact gv1 rfl rfl h
    · rw [if_neg (neT hb7)] at h
      refine WC_skip ?_
      refine nrm ?_
      refine WC_seq ?_
      refine WC_region ?_
      refine WL_val gd0 ((o_move (v := .pointer x3) rfl) _) rfl ?_
      refine WL_call gd0 (o_call Try.call12 (argCons rfl (argCons rfl argNil)) _) rfl (h.mono ?_)
      rintro _ w8 ⟨r9, r10, rfl, h⟩
      refine WL_val gd0 ((o_move (v := .tuple #[.int .i64 r9, .bool r10]) rfl) _) rfl ?_
      refine WL_val gd0 ((o_extract (vs := [.int .i64 r9, .bool r10]) (r := .int .i64 r9) rfl rfl) _) rfl ?_
      refine WL_val gd0 ((o_extract (vs := [.int .i64 r9, .bool r10]) (r := .bool r10) rfl rfl) _) rfl ?_
      refine WL_val gd0 ((o_assign (v := .int .i64 r9) rfl) _) rfl ?_
      refine WL_val gd0 ((o_assign (v := .bool r10) rfl) _) rfl ?_
      refine WL_nil ?_
      refine nrm ?_
      refine WC_seq ?_
      refine WC_region ?_
      refine WL_val gd0 ((o_move (v := .pointer x3) rfl) _) rfl ?_
      refine WL_call gd0 (o_call Try.call12 (argCons rfl (argCons rfl argNil)) _) rfl (h.mono ?_)
      rintro _ w11 ⟨r12, r13, rfl, h⟩
      refine WL_val gd0 ((o_move (v := .tuple #[.int .i64 r12, .bool r13]) rfl) _) rfl ?_
      refine WL_val gd0 ((o_extract (vs := [.int .i64 r12, .bool r13]) (r := .int .i64 r12) rfl rfl) _) rfl ?_
      refine WL_val gd0 ((o_extract (vs := [.int .i64 r12, .bool r13]) (r := .bool r13) rfl rfl) _) rfl ?_
      refine WL_val gd0 ((o_assign (v := .int .i64 r12) rfl) _) rfl ?_
      refine WL_val gd0 ((o_assign (v := .bool r13) rfl) _) rfl ?_
      refine WL_nil ?_
      refine nrm ?_
      refine WC_seq ?_
      refine WC_region ?_
      refine WL_val gd0 ((o_move (v := .pointer x3) rfl) _) rfl ?_
      refine WL_call gd0 (o_call Try.call12 (argCons rfl (argCons rfl argNil)) _) rfl (h.mono ?_)
      rintro _ w14 ⟨r15, r16, rfl, h⟩
      refine WL_val gd0 ((o_move (v := .tuple #[.int .i64 r15, .bool r16]) rfl) _) rfl ?_
      refine WL_val gd0 ((o_extract (vs := [.int .i64 r15, .bool r16]) (r := .int .i64 r15) rfl rfl) _) rfl ?_
      refine WL_val gd0 ((o_extract (vs := [.int .i64 r15, .bool r16]) (r := .bool r16) rfl rfl) _) rfl ?_
      refine WL_val gd0 ((o_assign (v := .int .i64 r15) rfl) _) rfl ?_
      refine WL_val gd0 ((o_assign (v := .bool r16) rfl) _) rfl ?_
      refine WL_nil ?_
      refine nrm ?_
      refine WC_seq ?_
      refine WC_region ?_
      refine WL_val gd0 ((o_move (v := .pointer x5) rfl) _) rfl ?_
      refine WL_call gd0 (o_call Try.call12 (argCons rfl (argCons rfl argNil)) _) rfl (h.mono ?_)
      rintro _ w17 ⟨r18, r19, rfl, h⟩
      refine WL_val gd0 ((o_move (v := .tuple #[.int .i64 r18, .bool r19]) rfl) _) rfl ?_
      refine WL_val gd0 ((o_extract (vs := [.int .i64 r18, .bool r19]) (r := .int .i64 r18) rfl rfl) _) rfl ?_
      refine WL_val gd0 ((o_extract (vs := [.int .i64 r18, .bool r19]) (r := .bool r19) rfl rfl) _) rfl ?_
      refine WL_val gd0 ((o_assign (v := .int .i64 r18) rfl) _) rfl ?_
      refine WL_val gd0 ((o_assign (v := .bool r19) rfl) _) rfl ?_
      refine WL_nil ?_
      refine nrm ?_
      refine WC_seq ?_
      refine WC_region ?_
      refine WL_val gd0 ((o_move (v := .bool r10) rfl) _) rfl ?_
      refine WL_val gd0 ((o_not rfl) _) rfl ?_
      refine WL_val gd0 ((o_move (v := .bool (!r10)) rfl) _) rfl ?_
      refine bsplit (!r10) (fun hb20 => ?_) (fun hb20 => ?_)
      · rw [if_pos hb20] at h
        refine WL_val (gdY (b := (!r10)) 41 rfl rfl hb20) ((o_move (v := .bool r13) rfl) _) rfl ?_
        refine WL_val (gdY (b := (!r10)) 41 rfl rfl hb20) ((o_not rfl) _) rfl ?_
        refine WL_val gd0 ((o_pickT (v := .bool (!r13)) rfl hb20 rfl) _) rfl ?_
        refine WL_val gd0 ((o_move (v := .bool (!r13)) rfl) _) rfl ?_
        refine bsplit (!r13) (fun hb21 => ?_) (fun hb21 => ?_)
        · rw [if_pos hb21] at h
          refine WL_val (gdY (b := (!r13)) 45 rfl rfl hb21) ((o_move (v := .int .i64 r15) rfl) _) rfl ?_
          refine WL_val (gdY (b := (!r13)) 45 rfl rfl hb21) ((o_eql rfl rfl) _) rfl ?_
          refine WL_val gd0 ((o_pickT (v := .bool (decide (r15 = 5))) rfl hb21 rfl) _) rfl ?_
          refine WL_val gd0 ((o_move (v := .bool (decide (r15 = 5))) rfl) _) rfl ?_
          refine bsplit (decide (r15 = 5)) (fun hb22 => ?_) (fun hb22 => ?_)
          · rw [if_pos (of_decide_eq_true hb22)] at h
            refine WL_val (gdY (b := (decide (r15 = 5))) 49 rfl rfl hb22) ((o_move (v := .bool r16) rfl) _) rfl ?_
            refine WL_val gd0 ((o_pickT (v := .bool r16) rfl hb22 rfl) _) rfl ?_
            refine WL_val gd0 ((o_move (v := .bool r16) rfl) _) rfl ?_
            refine bsplit r16 (fun hb23 => ?_) (fun hb23 => ?_)
            · rw [if_pos hb23] at h
              refine WL_val (gdY (b := r16) 52 rfl rfl hb23) ((o_move (v := .pointer x3) rfl) _) rfl ?_
              refine WL_call (gdY (b := r16) 52 rfl rfl hb23) (o_call Try.call16 (argCons rfl argNil) _) rfl (h.mono ?_)
              rintro _ w24 ⟨x_a25, x_n26, x_c27, rfl, h⟩
              have h := New.out h
              refine WL_val (gdY (b := r16) 52 rfl rfl hb23) (o_buildSlice (e := 3) (ps := [(0, .int .i64 6), (1, .int .i64 7)]) (cs := [.int .i64 6, .int .i64 7]) (partCons rfl (partCons rfl partNil)) (fun w => by kernel_rfl)) rfl ?_
              generalize hp28 : fresh w24 = p28 at h ⊢
              generalize hw29 : push w24 3 [.int .i64 6, .int .i64 7] = w29 at h ⊢
              try dsimp only at h
              refine WL_call (gdY (b := r16) 52 rfl rfl hb23) (o_call Try.call15 (argCons rfl (argCons rfl argNil)) _) rfl (h.mono ?_)
              rintro _ w30 ⟨x31, rfl, h⟩
              refine WL_val gd0 ((o_pickT (v := .bool x31) rfl hb23 rfl) _) rfl ?_
              refine WL_val gd0 ((o_move (v := .bool x31) rfl) _) rfl ?_
              refine bsplit x31 (fun hb32 => ?_) (fun hb32 => ?_)
              · rw [if_pos hb32] at h
                refine WL_val (gdY (b := x31) 58 rfl rfl hb32) ((o_move (v := .pointer x3) rfl) _) rfl ?_
                refine WL_call (gdY (b := x31) 58 rfl rfl hb32) (o_call Try.call10 (argCons rfl (argCons rfl argNil)) _) rfl (h.mono ?_)
                rintro _ w33 ⟨x34, rfl, h⟩
                refine WL_val (gdY (b := x31) 58 rfl rfl hb32) ((o_not rfl) _) rfl ?_
                refine WL_val gd0 ((o_pickT (v := .bool (!x34)) rfl hb32 rfl) _) rfl ?_
                refine WL_val gd0 ((o_move (v := .bool (!x34)) rfl) _) rfl ?_
                refine bsplit (!x34) (fun hb35 => ?_) (fun hb35 => ?_)
                · rw [if_pos hb35] at h
                  refine WL_val (gdY (b := (!x34)) 63 rfl rfl hb35) ((o_move (v := .pointer x3) rfl) _) rfl ?_
                  refine WL_call (gdY (b := (!x34)) 63 rfl rfl hb35) (o_call Try.call10 (argCons rfl (argCons rfl argNil)) _) rfl (h.mono ?_)
                  rintro _ w36 ⟨x37, rfl, h⟩
                  refine WL_val gd0 ((o_pickT (v := .bool x37) rfl hb35 rfl) _) rfl ?_
                  refine WL_val gd0 ((o_move (v := .bool x37) rfl) _) rfl ?_
                  refine bsplit x37 (fun hb38 => ?_) (fun hb38 => ?_)
                  · rw [if_pos hb38] at h
                    refine WL_val (gdY (b := x37) 67 rfl rfl hb38) ((o_move (v := .pointer x3) rfl) _) rfl ?_
                    refine WL_call (gdY (b := x37) 67 rfl rfl hb38) (o_call Try.call17 (argCons rfl argNil) _) rfl (h.mono ?_)
                    rintro _ w39 ⟨x40, rfl, h⟩
                    refine WL_val (gdY (b := x37) 67 rfl rfl hb38) ((o_eql rfl rfl) _) rfl ?_
                    refine WL_val gd0 ((o_pickT (v := .bool (decide (x40 = 1))) rfl hb38 rfl) _) rfl ?_
                    refine WL_val gd0 ((o_move (v := .bool (decide (x40 = 1))) rfl) _) rfl ?_
                    refine bsplit (decide (x40 = 1)) (fun hb41 => ?_) (fun hb41 => ?_)
                    · rw [if_pos (of_decide_eq_true hb41)] at h
                      refine WL_val (gdY (b := (decide (x40 = 1))) 72 rfl rfl hb41) ((o_move (v := .pointer x3) rfl) _) rfl ?_
                      refine WL_call (gdY (b := (decide (x40 = 1))) 72 rfl rfl hb41) (o_call Try.call19 (argCons rfl argNil) _) rfl (h.mono ?_)
                      rintro _ w42 ⟨x43, rfl, h⟩
                      refine WL_val (gdY (b := (decide (x40 = 1))) 72 rfl rfl hb41) ((o_eql rfl rfl) _) rfl ?_
                      refine WL_val gd0 ((o_pickT (v := .bool (decide (x43 = 2))) rfl hb41 rfl) _) rfl ?_
                      refine WL_val gd0 ((o_move (v := .bool (decide (x43 = 2))) rfl) _) rfl ?_
                      refine bsplit (decide (x43 = 2)) (fun hb44 => ?_) (fun hb44 => ?_)
                      · rw [if_pos (of_decide_eq_true hb44)] at h
                        refine WL_val (gdY (b := (decide (x43 = 2))) 77 rfl rfl hb44) ((o_move (v := .int .i64 r18) rfl) _) rfl ?_
                        refine WL_val (gdY (b := (decide (x43 = 2))) 77 rfl rfl hb44) ((o_eql rfl rfl) _) rfl ?_
                        refine WL_val gd0 ((o_pickT (v := .bool (decide (r18 = 5))) rfl hb44 rfl) _) rfl ?_
                        refine WL_val gd0 ((o_move (v := .bool (decide (r18 = 5))) rfl) _) rfl ?_
                        refine bsplit (decide (r18 = 5)) (fun hb45 => ?_) (fun hb45 => ?_)
                        · rw [if_pos (of_decide_eq_true hb45)] at h
                          refine WL_val (gdY (b := (decide (r18 = 5))) 81 rfl rfl hb45) ((o_move (v := .bool r19) rfl) _) rfl ?_
                          refine WL_val gd0 ((o_pickT (v := .bool r19) rfl hb45 rfl) _) rfl ?_
                          refine WL_val gd0 ((o_move (v := .bool r19) rfl) _) rfl ?_
                          refine bsplit r19 (fun hb46 => ?_) (fun hb46 => ?_)
                          · rw [if_pos hb46] at h
                            refine WL_val (gdY (b := r19) 84 rfl rfl hb46) ((o_move (v := .pointer x5) rfl) _) rfl ?_
                            refine WL_call (gdY (b := r19) 84 rfl rfl hb46) (o_call Try.call19 (argCons rfl argNil) _) rfl (h.mono ?_)
                            rintro _ w47 ⟨x48, rfl, h⟩
                            refine WL_val (gdY (b := r19) 84 rfl rfl hb46) ((o_eql rfl rfl) _) rfl ?_
                            refine WL_val gd0 ((o_pickT (v := .bool (decide (x48 = 0))) rfl hb46 rfl) _) rfl ?_
                            refine WL_val gd0 ((o_assign (v := .bool (decide (x48 = 0))) rfl) _) rfl ?_
                            refine WL_nil ?_
                            refine nrm ?_
                            refine WC_ret ?_
                            refine rtE ?_
                            exact gv1 rfl rfl h
                          · rw [if_neg (neT hb46)] at h
                            refine WL_skip (gdN (b := r19) 84 rfl rfl hb46) rfl ?_
                            refine WL_skip (gdN (b := r19) 84 rfl rfl hb46) rfl ?_
                            refine WL_skip (gdN (b := r19) 84 rfl rfl hb46) rfl ?_
                            refine WL_val gd0 ((o_pickF (v := .bool false) rfl hb46 rfl) _) rfl ?_
                            refine WL_val gd0 ((o_assign (v := .bool false) rfl) _) rfl ?_
                            refine WL_nil ?_
                            refine nrm ?_
                            refine WC_ret ?_
                            refine rtE ?_
                            exact gv1 rfl rfl h
                        · rw [if_neg (of_decide_eq_false hb45)] at h
                          refine WL_skip (gdN (b := (decide (r18 = 5))) 81 rfl rfl hb45) rfl ?_
                          refine WL_val gd0 ((o_pickF (v := .bool false) rfl hb45 rfl) _) rfl ?_
                          refine WL_val gd0 ((o_move (v := .bool false) rfl) _) rfl ?_
                          refine WL_skip (gdN (b := false) 84 rfl rfl rfl) rfl ?_
                          refine WL_skip (gdN (b := false) 84 rfl rfl rfl) rfl ?_
                          refine WL_skip (gdN (b := false) 84 rfl rfl rfl) rfl ?_
                          refine WL_val gd0 ((o_pickF (v := .bool false) rfl rfl rfl) _) rfl ?_
                          refine WL_val gd0 ((o_assign (v := .bool false) rfl) _) rfl ?_
                          refine WL_nil ?_
                          refine nrm ?_
                          refine WC_ret ?_
                          refine rtE ?_
                          exact gv1 rfl rfl h
                      · rw [if_neg (of_decide_eq_false hb44)] at h
                        refine WL_skip (gdN (b := (decide (x43 = 2))) 77 rfl rfl hb44) rfl ?_
                        refine WL_skip (gdN (b := (decide (x43 = 2))) 77 rfl rfl hb44) rfl ?_
                        refine WL_val gd0 ((o_pickF (v := .bool false) rfl hb44 rfl) _) rfl ?_
                        refine WL_val gd0 ((o_move (v := .bool false) rfl) _) rfl ?_
                        refine WL_skip (gdN (b := false) 81 rfl rfl rfl) rfl ?_
                        refine WL_val gd0 ((o_pickF (v := .bool false) rfl rfl rfl) _) rfl ?_
                        refine WL_val gd0 ((o_move (v := .bool false) rfl) _) rfl ?_
                        refine WL_skip (gdN (b := false) 84 rfl rfl rfl) rfl ?_
                        refine WL_skip (gdN (b := false) 84 rfl rfl rfl) rfl ?_
                        refine WL_skip (gdN (b := false) 84 rfl rfl rfl) rfl ?_
                        refine WL_val gd0 ((o_pickF (v := .bool false) rfl rfl rfl) _) rfl ?_
                        refine WL_val gd0 ((o_assign (v := .bool false) rfl) _) rfl ?_
                        refine WL_nil ?_
                        refine nrm ?_
                        refine WC_ret ?_
                        refine rtE ?_
                        exact gv1 rfl rfl h
                    · rw [if_neg (of_decide_eq_false hb41)] at h
                      refine WL_skip (gdN (b := (decide (x40 = 1))) 72 rfl rfl hb41) rfl ?_
                      refine WL_skip (gdN (b := (decide (x40 = 1))) 72 rfl rfl hb41) rfl ?_
                      refine WL_skip (gdN (b := (decide (x40 = 1))) 72 rfl rfl hb41) rfl ?_
                      refine WL_val gd0 ((o_pickF (v := .bool false) rfl hb41 rfl) _) rfl ?_
                      refine WL_val gd0 ((o_move (v := .bool false) rfl) _) rfl ?_
                      refine WL_skip (gdN (b := false) 77 rfl rfl rfl) rfl ?_
                      refine WL_skip (gdN (b := false) 77 rfl rfl rfl) rfl ?_
                      refine WL_val gd0 ((o_pickF (v := .bool false) rfl rfl rfl) _) rfl ?_
                      refine WL_val gd0 ((o_move (v := .bool false) rfl) _) rfl ?_
                      refine WL_skip (gdN (b := false) 81 rfl rfl rfl) rfl ?_
                      refine WL_val gd0 ((o_pickF (v := .bool false) rfl rfl rfl) _) rfl ?_
                      refine WL_val gd0 ((o_move (v := .bool false) rfl) _) rfl ?_
                      refine WL_skip (gdN (b := false) 84 rfl rfl rfl) rfl ?_
                      refine WL_skip (gdN (b := false) 84 rfl rfl rfl) rfl ?_
                      refine WL_skip (gdN (b := false) 84 rfl rfl rfl) rfl ?_
                      refine WL_val gd0 ((o_pickF (v := .bool false) rfl rfl rfl) _) rfl ?_
                      refine WL_val gd0 ((o_assign (v := .bool false) rfl) _) rfl ?_
                      refine WL_nil ?_
                      refine nrm ?_
                      refine WC_ret ?_
                      refine rtE ?_
                      exact gv1 rfl rfl h
                  · rw [if_neg (neT hb38)] at h
                    refine WL_skip (gdN (b := x37) 67 rfl rfl hb38) rfl ?_
                    refine WL_skip (gdN (b := x37) 67 rfl rfl hb38) rfl ?_
                    refine WL_skip (gdN (b := x37) 67 rfl rfl hb38) rfl ?_
                    refine WL_val gd0 ((o_pickF (v := .bool false) rfl hb38 rfl) _) rfl ?_
                    refine WL_val gd0 ((o_move (v := .bool false) rfl) _) rfl ?_
                    refine WL_skip (gdN (b := false) 72 rfl rfl rfl) rfl ?_
                    refine WL_skip (gdN (b := false) 72 rfl rfl rfl) rfl ?_
                    refine WL_skip (gdN (b := false) 72 rfl rfl rfl) rfl ?_
                    refine WL_val gd0 ((o_pickF (v := .bool false) rfl rfl rfl) _) rfl ?_
                    refine WL_val gd0 ((o_move (v := .bool false) rfl) _) rfl ?_
                    refine WL_skip (gdN (b := false) 77 rfl rfl rfl) rfl ?_
                    refine WL_skip (gdN (b := false) 77 rfl rfl rfl) rfl ?_
                    refine WL_val gd0 ((o_pickF (v := .bool false) rfl rfl rfl) _) rfl ?_
                    refine WL_val gd0 ((o_move (v := .bool false) rfl) _) rfl ?_
                    refine WL_skip (gdN (b := false) 81 rfl rfl rfl) rfl ?_
                    refine WL_val gd0 ((o_pickF (v := .bool false) rfl rfl rfl) _) rfl ?_
                    refine WL_val gd0 ((o_move (v := .bool false) rfl) _) rfl ?_
                    refine WL_skip (gdN (b := false) 84 rfl rfl rfl) rfl ?_
                    refine WL_skip (gdN (b := false) 84 rfl rfl rfl) rfl ?_
                    refine WL_skip (gdN (b := false) 84 rfl rfl rfl) rfl ?_
                    refine WL_val gd0 ((o_pickF (v := .bool false) rfl rfl rfl) _) rfl ?_
                    refine WL_val gd0 ((o_assign (v := .bool false) rfl) _) rfl ?_
                    refine WL_nil ?_
                    refine nrm ?_
                    refine WC_ret ?_
                    refine rtE ?_
                    exact gv1 rfl rfl h
                · rw [if_neg (neT hb35)] at h
                  refine WL_skip (gdN (b := (!x34)) 63 rfl rfl hb35) rfl ?_
                  refine WL_skip (gdN (b := (!x34)) 63 rfl rfl hb35) rfl ?_
                  refine WL_val gd0 ((o_pickF (v := .bool false) rfl hb35 rfl) _) rfl ?_
                  refine WL_val gd0 ((o_move (v := .bool false) rfl) _) rfl ?_
                  refine WL_skip (gdN (b := false) 67 rfl rfl rfl) rfl ?_
                  refine WL_skip (gdN (b := false) 67 rfl rfl rfl) rfl ?_
                  refine WL_skip (gdN (b := false) 67 rfl rfl rfl) rfl ?_
                  refine WL_val gd0 ((o_pickF (v := .bool false) rfl rfl rfl) _) rfl ?_
                  refine WL_val gd0 ((o_move (v := .bool false) rfl) _) rfl ?_
                  refine WL_skip (gdN (b := false) 72 rfl rfl rfl) rfl ?_
                  refine WL_skip (gdN (b := false) 72 rfl rfl rfl) rfl ?_
                  refine WL_skip (gdN (b := false) 72 rfl rfl rfl) rfl ?_
                  refine WL_val gd0 ((o_pickF (v := .bool false) rfl rfl rfl) _) rfl ?_
                  refine WL_val gd0 ((o_move (v := .bool false) rfl) _) rfl ?_
                  refine WL_skip (gdN (b := false) 77 rfl rfl rfl) rfl ?_
                  refine WL_skip (gdN (b := false) 77 rfl rfl rfl) rfl ?_
                  refine WL_val gd0 ((o_pickF (v := .bool false) rfl rfl rfl) _) rfl ?_
                  refine WL_val gd0 ((o_move (v := .bool false) rfl) _) rfl ?_
                  refine WL_skip (gdN (b := false) 81 rfl rfl rfl) rfl ?_
                  refine WL_val gd0 ((o_pickF (v := .bool false) rfl rfl rfl) _) rfl ?_
                  refine WL_val gd0 ((o_move (v := .bool false) rfl) _) rfl ?_
                  refine WL_skip (gdN (b := false) 84 rfl rfl rfl) rfl ?_
                  refine WL_skip (gdN (b := false) 84 rfl rfl rfl) rfl ?_
                  refine WL_skip (gdN (b := false) 84 rfl rfl rfl) rfl ?_
                  refine WL_val gd0 ((o_pickF (v := .bool false) rfl rfl rfl) _) rfl ?_
                  refine WL_val gd0 ((o_assign (v := .bool false) rfl) _) rfl ?_
                  refine WL_nil ?_
                  refine nrm ?_
                  refine WC_ret ?_
                  refine rtE ?_
                  exact gv1 rfl rfl h
              · rw [if_neg (neT hb32)] at h
                refine WL_skip (gdN (b := x31) 58 rfl rfl hb32) rfl ?_
                refine WL_skip (gdN (b := x31) 58 rfl rfl hb32) rfl ?_
                refine WL_skip (gdN (b := x31) 58 rfl rfl hb32) rfl ?_
                refine WL_val gd0 ((o_pickF (v := .bool false) rfl hb32 rfl) _) rfl ?_
                refine WL_val gd0 ((o_move (v := .bool false) rfl) _) rfl ?_
                refine WL_skip (gdN (b := false) 63 rfl rfl rfl) rfl ?_
                refine WL_skip (gdN (b := false) 63 rfl rfl rfl) rfl ?_
                refine WL_val gd0 ((o_pickF (v := .bool false) rfl rfl rfl) _) rfl ?_
                refine WL_val gd0 ((o_move (v := .bool false) rfl) _) rfl ?_
                refine WL_skip (gdN (b := false) 67 rfl rfl rfl) rfl ?_
                refine WL_skip (gdN (b := false) 67 rfl rfl rfl) rfl ?_
                refine WL_skip (gdN (b := false) 67 rfl rfl rfl) rfl ?_
                refine WL_val gd0 ((o_pickF (v := .bool false) rfl rfl rfl) _) rfl ?_
                refine WL_val gd0 ((o_move (v := .bool false) rfl) _) rfl ?_
                refine WL_skip (gdN (b := false) 72 rfl rfl rfl) rfl ?_
                refine WL_skip (gdN (b := false) 72 rfl rfl rfl) rfl ?_
                refine WL_skip (gdN (b := false) 72 rfl rfl rfl) rfl ?_
                refine WL_val gd0 ((o_pickF (v := .bool false) rfl rfl rfl) _) rfl ?_
                refine WL_val gd0 ((o_move (v := .bool false) rfl) _) rfl ?_
                refine WL_skip (gdN (b := false) 77 rfl rfl rfl) rfl ?_
                refine WL_skip (gdN (b := false) 77 rfl rfl rfl) rfl ?_
                refine WL_val gd0 ((o_pickF (v := .bool false) rfl rfl rfl) _) rfl ?_
                refine WL_val gd0 ((o_move (v := .bool false) rfl) _) rfl ?_
                refine WL_skip (gdN (b := false) 81 rfl rfl rfl) rfl ?_
                refine WL_val gd0 ((o_pickF (v := .bool false) rfl rfl rfl) _) rfl ?_
                refine WL_val gd0 ((o_move (v := .bool false) rfl) _) rfl ?_
                refine WL_skip (gdN (b := false) 84 rfl rfl rfl) rfl ?_
                refine WL_skip (gdN (b := false) 84 rfl rfl rfl) rfl ?_
                refine WL_skip (gdN (b := false) 84 rfl rfl rfl) rfl ?_
                refine WL_val gd0 ((o_pickF (v := .bool false) rfl rfl rfl) _) rfl ?_
                refine WL_val gd0 ((o_assign (v := .bool false) rfl) _) rfl ?_
                refine WL_nil ?_
                refine nrm ?_
                refine WC_ret ?_
                refine rtE ?_
                exact gv1 rfl rfl h
            · rw [if_neg (neT hb23)] at h
              refine WL_skip (gdN (b := r16) 52 rfl rfl hb23) rfl ?_
              refine WL_skip (gdN (b := r16) 52 rfl rfl hb23) rfl ?_
              refine WL_skip (gdN (b := r16) 52 rfl rfl hb23) rfl ?_
              refine WL_skip (gdN (b := r16) 52 rfl rfl hb23) rfl ?_
              refine WL_val gd0 ((o_pickF (v := .bool false) rfl hb23 rfl) _) rfl ?_
              refine WL_val gd0 ((o_move (v := .bool false) rfl) _) rfl ?_
              refine WL_skip (gdN (b := false) 58 rfl rfl rfl) rfl ?_
              refine WL_skip (gdN (b := false) 58 rfl rfl rfl) rfl ?_
              refine WL_skip (gdN (b := false) 58 rfl rfl rfl) rfl ?_
              refine WL_val gd0 ((o_pickF (v := .bool false) rfl rfl rfl) _) rfl ?_
              refine WL_val gd0 ((o_move (v := .bool false) rfl) _) rfl ?_
              refine WL_skip (gdN (b := false) 63 rfl rfl rfl) rfl ?_
              refine WL_skip (gdN (b := false) 63 rfl rfl rfl) rfl ?_
              refine WL_val gd0 ((o_pickF (v := .bool false) rfl rfl rfl) _) rfl ?_
              refine WL_val gd0 ((o_move (v := .bool false) rfl) _) rfl ?_
              refine WL_skip (gdN (b := false) 67 rfl rfl rfl) rfl ?_
              refine WL_skip (gdN (b := false) 67 rfl rfl rfl) rfl ?_
              refine WL_skip (gdN (b := false) 67 rfl rfl rfl) rfl ?_
              refine WL_val gd0 ((o_pickF (v := .bool false) rfl rfl rfl) _) rfl ?_
              refine WL_val gd0 ((o_move (v := .bool false) rfl) _) rfl ?_
              refine WL_skip (gdN (b := false) 72 rfl rfl rfl) rfl ?_
              refine WL_skip (gdN (b := false) 72 rfl rfl rfl) rfl ?_
              refine WL_skip (gdN (b := false) 72 rfl rfl rfl) rfl ?_
              refine WL_val gd0 ((o_pickF (v := .bool false) rfl rfl rfl) _) rfl ?_
              refine WL_val gd0 ((o_move (v := .bool false) rfl) _) rfl ?_
              refine WL_skip (gdN (b := false) 77 rfl rfl rfl) rfl ?_
              refine WL_skip (gdN (b := false) 77 rfl rfl rfl) rfl ?_
              refine WL_val gd0 ((o_pickF (v := .bool false) rfl rfl rfl) _) rfl ?_
              refine WL_val gd0 ((o_move (v := .bool false) rfl) _) rfl ?_
              refine WL_skip (gdN (b := false) 81 rfl rfl rfl) rfl ?_
              refine WL_val gd0 ((o_pickF (v := .bool false) rfl rfl rfl) _) rfl ?_
              refine WL_val gd0 ((o_move (v := .bool false) rfl) _) rfl ?_
              refine WL_skip (gdN (b := false) 84 rfl rfl rfl) rfl ?_
              refine WL_skip (gdN (b := false) 84 rfl rfl rfl) rfl ?_
              refine WL_skip (gdN (b := false) 84 rfl rfl rfl) rfl ?_
              refine WL_val gd0 ((o_pickF (v := .bool false) rfl rfl rfl) _) rfl ?_
              refine WL_val gd0 ((o_assign (v := .bool false) rfl) _) rfl ?_
              refine WL_nil ?_
              refine nrm ?_
              refine WC_ret ?_
              refine rtE ?_
              exact gv1 rfl rfl h
          · rw [if_neg (of_decide_eq_false hb22)] at h
            refine WL_skip (gdN (b := (decide (r15 = 5))) 49 rfl rfl hb22) rfl ?_
            refine WL_val gd0 ((o_pickF (v := .bool false) rfl hb22 rfl) _) rfl ?_
            refine WL_val gd0 ((o_move (v := .bool false) rfl) _) rfl ?_
            refine WL_skip (gdN (b := false) 52 rfl rfl rfl) rfl ?_
            refine WL_skip (gdN (b := false) 52 rfl rfl rfl) rfl ?_
            refine WL_skip (gdN (b := false) 52 rfl rfl rfl) rfl ?_
            refine WL_skip (gdN (b := false) 52 rfl rfl rfl) rfl ?_
            refine WL_val gd0 ((o_pickF (v := .bool false) rfl rfl rfl) _) rfl ?_
            refine WL_val gd0 ((o_move (v := .bool false) rfl) _) rfl ?_
            refine WL_skip (gdN (b := false) 58 rfl rfl rfl) rfl ?_
            refine WL_skip (gdN (b := false) 58 rfl rfl rfl) rfl ?_
            refine WL_skip (gdN (b := false) 58 rfl rfl rfl) rfl ?_
            refine WL_val gd0 ((o_pickF (v := .bool false) rfl rfl rfl) _) rfl ?_
            refine WL_val gd0 ((o_move (v := .bool false) rfl) _) rfl ?_
            refine WL_skip (gdN (b := false) 63 rfl rfl rfl) rfl ?_
            refine WL_skip (gdN (b := false) 63 rfl rfl rfl) rfl ?_
            refine WL_val gd0 ((o_pickF (v := .bool false) rfl rfl rfl) _) rfl ?_
            refine WL_val gd0 ((o_move (v := .bool false) rfl) _) rfl ?_
            refine WL_skip (gdN (b := false) 67 rfl rfl rfl) rfl ?_
            refine WL_skip (gdN (b := false) 67 rfl rfl rfl) rfl ?_
            refine WL_skip (gdN (b := false) 67 rfl rfl rfl) rfl ?_
            refine WL_val gd0 ((o_pickF (v := .bool false) rfl rfl rfl) _) rfl ?_
            refine WL_val gd0 ((o_move (v := .bool false) rfl) _) rfl ?_
            refine WL_skip (gdN (b := false) 72 rfl rfl rfl) rfl ?_
            refine WL_skip (gdN (b := false) 72 rfl rfl rfl) rfl ?_
            refine WL_skip (gdN (b := false) 72 rfl rfl rfl) rfl ?_
            refine WL_val gd0 ((o_pickF (v := .bool false) rfl rfl rfl) _) rfl ?_
            refine WL_val gd0 ((o_move (v := .bool false) rfl) _) rfl ?_
            refine WL_skip (gdN (b := false) 77 rfl rfl rfl) rfl ?_
            refine WL_skip (gdN (b := false) 77 rfl rfl rfl) rfl ?_
            refine WL_val gd0 ((o_pickF (v := .bool false) rfl rfl rfl) _) rfl ?_
            refine WL_val gd0 ((o_move (v := .bool false) rfl) _) rfl ?_
            refine WL_skip (gdN (b := false) 81 rfl rfl rfl) rfl ?_
            refine WL_val gd0 ((o_pickF (v := .bool false) rfl rfl rfl) _) rfl ?_
            refine WL_val gd0 ((o_move (v := .bool false) rfl) _) rfl ?_
            refine WL_skip (gdN (b := false) 84 rfl rfl rfl) rfl ?_
            refine WL_skip (gdN (b := false) 84 rfl rfl rfl) rfl ?_
            refine WL_skip (gdN (b := false) 84 rfl rfl rfl) rfl ?_
            refine WL_val gd0 ((o_pickF (v := .bool false) rfl rfl rfl) _) rfl ?_
            refine WL_val gd0 ((o_assign (v := .bool false) rfl) _) rfl ?_
            refine WL_nil ?_
            refine nrm ?_
            refine WC_ret ?_
            refine rtE ?_
            exact gv1 rfl rfl h
        · rw [if_neg (neT hb21)] at h
          refine WL_skip (gdN (b := (!r13)) 45 rfl rfl hb21) rfl ?_
          refine WL_skip (gdN (b := (!r13)) 45 rfl rfl hb21) rfl ?_
          refine WL_val gd0 ((o_pickF (v := .bool false) rfl hb21 rfl) _) rfl ?_
          refine WL_val gd0 ((o_move (v := .bool false) rfl) _) rfl ?_
          refine WL_skip (gdN (b := false) 49 rfl rfl rfl) rfl ?_
          refine WL_val gd0 ((o_pickF (v := .bool false) rfl rfl rfl) _) rfl ?_
          refine WL_val gd0 ((o_move (v := .bool false) rfl) _) rfl ?_
          refine WL_skip (gdN (b := false) 52 rfl rfl rfl) rfl ?_
          refine WL_skip (gdN (b := false) 52 rfl rfl rfl) rfl ?_
          refine WL_skip (gdN (b := false) 52 rfl rfl rfl) rfl ?_
          refine WL_skip (gdN (b := false) 52 rfl rfl rfl) rfl ?_
          refine WL_val gd0 ((o_pickF (v := .bool false) rfl rfl rfl) _) rfl ?_
          refine WL_val gd0 ((o_move (v := .bool false) rfl) _) rfl ?_
          refine WL_skip (gdN (b := false) 58 rfl rfl rfl) rfl ?_
          refine WL_skip (gdN (b := false) 58 rfl rfl rfl) rfl ?_
          refine WL_skip (gdN (b := false) 58 rfl rfl rfl) rfl ?_
          refine WL_val gd0 ((o_pickF (v := .bool false) rfl rfl rfl) _) rfl ?_
          refine WL_val gd0 ((o_move (v := .bool false) rfl) _) rfl ?_
          refine WL_skip (gdN (b := false) 63 rfl rfl rfl) rfl ?_
          refine WL_skip (gdN (b := false) 63 rfl rfl rfl) rfl ?_
          refine WL_val gd0 ((o_pickF (v := .bool false) rfl rfl rfl) _) rfl ?_
          refine WL_val gd0 ((o_move (v := .bool false) rfl) _) rfl ?_
          refine WL_skip (gdN (b := false) 67 rfl rfl rfl) rfl ?_
          refine WL_skip (gdN (b := false) 67 rfl rfl rfl) rfl ?_
          refine WL_skip (gdN (b := false) 67 rfl rfl rfl) rfl ?_
          refine WL_val gd0 ((o_pickF (v := .bool false) rfl rfl rfl) _) rfl ?_
          refine WL_val gd0 ((o_move (v := .bool false) rfl) _) rfl ?_
          refine WL_skip (gdN (b := false) 72 rfl rfl rfl) rfl ?_
          refine WL_skip (gdN (b := false) 72 rfl rfl rfl) rfl ?_
          refine WL_skip (gdN (b := false) 72 rfl rfl rfl) rfl ?_
          refine WL_val gd0 ((o_pickF (v := .bool false) rfl rfl rfl) _) rfl ?_
          refine WL_val gd0 ((o_move (v := .bool false) rfl) _) rfl ?_
          refine WL_skip (gdN (b := false) 77 rfl rfl rfl) rfl ?_
          refine WL_skip (gdN (b := false) 77 rfl rfl rfl) rfl ?_
          refine WL_val gd0 ((o_pickF (v := .bool false) rfl rfl rfl) _) rfl ?_
          refine WL_val gd0 ((o_move (v := .bool false) rfl) _) rfl ?_
          refine WL_skip (gdN (b := false) 81 rfl rfl rfl) rfl ?_
          refine WL_val gd0 ((o_pickF (v := .bool false) rfl rfl rfl) _) rfl ?_
          refine WL_val gd0 ((o_move (v := .bool false) rfl) _) rfl ?_
          refine WL_skip (gdN (b := false) 84 rfl rfl rfl) rfl ?_
          refine WL_skip (gdN (b := false) 84 rfl rfl rfl) rfl ?_
          refine WL_skip (gdN (b := false) 84 rfl rfl rfl) rfl ?_
          refine WL_val gd0 ((o_pickF (v := .bool false) rfl rfl rfl) _) rfl ?_
          refine WL_val gd0 ((o_assign (v := .bool false) rfl) _) rfl ?_
          refine WL_nil ?_
          refine nrm ?_
          refine WC_ret ?_
          refine rtE ?_
          exact gv1 rfl rfl h
      · rw [if_neg (neT hb20)] at h
        refine WL_skip (gdN (b := (!r10)) 41 rfl rfl hb20) rfl ?_
        refine WL_skip (gdN (b := (!r10)) 41 rfl rfl hb20) rfl ?_
        refine WL_val gd0 ((o_pickF (v := .bool false) rfl hb20 rfl) _) rfl ?_
        refine WL_val gd0 ((o_move (v := .bool false) rfl) _) rfl ?_
        refine WL_skip (gdN (b := false) 45 rfl rfl rfl) rfl ?_
        refine WL_skip (gdN (b := false) 45 rfl rfl rfl) rfl ?_
        refine WL_val gd0 ((o_pickF (v := .bool false) rfl rfl rfl) _) rfl ?_
        refine WL_val gd0 ((o_move (v := .bool false) rfl) _) rfl ?_
        refine WL_skip (gdN (b := false) 49 rfl rfl rfl) rfl ?_
        refine WL_val gd0 ((o_pickF (v := .bool false) rfl rfl rfl) _) rfl ?_
        refine WL_val gd0 ((o_move (v := .bool false) rfl) _) rfl ?_
        refine WL_skip (gdN (b := false) 52 rfl rfl rfl) rfl ?_
        refine WL_skip (gdN (b := false) 52 rfl rfl rfl) rfl ?_
        refine WL_skip (gdN (b := false) 52 rfl rfl rfl) rfl ?_
        refine WL_skip (gdN (b := false) 52 rfl rfl rfl) rfl ?_
        refine WL_val gd0 ((o_pickF (v := .bool false) rfl rfl rfl) _) rfl ?_
        refine WL_val gd0 ((o_move (v := .bool false) rfl) _) rfl ?_
        refine WL_skip (gdN (b := false) 58 rfl rfl rfl) rfl ?_
        refine WL_skip (gdN (b := false) 58 rfl rfl rfl) rfl ?_
        refine WL_skip (gdN (b := false) 58 rfl rfl rfl) rfl ?_
        refine WL_val gd0 ((o_pickF (v := .bool false) rfl rfl rfl) _) rfl ?_
        refine WL_val gd0 ((o_move (v := .bool false) rfl) _) rfl ?_
        refine WL_skip (gdN (b := false) 63 rfl rfl rfl) rfl ?_
        refine WL_skip (gdN (b := false) 63 rfl rfl rfl) rfl ?_
        refine WL_val gd0 ((o_pickF (v := .bool false) rfl rfl rfl) _) rfl ?_
        refine WL_val gd0 ((o_move (v := .bool false) rfl) _) rfl ?_
        refine WL_skip (gdN (b := false) 67 rfl rfl rfl) rfl ?_
        refine WL_skip (gdN (b := false) 67 rfl rfl rfl) rfl ?_
        refine WL_skip (gdN (b := false) 67 rfl rfl rfl) rfl ?_
        refine WL_val gd0 ((o_pickF (v := .bool false) rfl rfl rfl) _) rfl ?_
        refine WL_val gd0 ((o_move (v := .bool false) rfl) _) rfl ?_
        refine WL_skip (gdN (b := false) 72 rfl rfl rfl) rfl ?_
        refine WL_skip (gdN (b := false) 72 rfl rfl rfl) rfl ?_
        refine WL_skip (gdN (b := false) 72 rfl rfl rfl) rfl ?_
        refine WL_val gd0 ((o_pickF (v := .bool false) rfl rfl rfl) _) rfl ?_
        refine WL_val gd0 ((o_move (v := .bool false) rfl) _) rfl ?_
        refine WL_skip (gdN (b := false) 77 rfl rfl rfl) rfl ?_
        refine WL_skip (gdN (b := false) 77 rfl rfl rfl) rfl ?_
        refine WL_val gd0 ((o_pickF (v := .bool false) rfl rfl rfl) _) rfl ?_
        refine WL_val gd0 ((o_move (v := .bool false) rfl) _) rfl ?_
        refine WL_skip (gdN (b := false) 81 rfl rfl rfl) rfl ?_
        refine WL_val gd0 ((o_pickF (v := .bool false) rfl rfl rfl) _) rfl ?_
        refine WL_val gd0 ((o_move (v := .bool false) rfl) _) rfl ?_
        refine WL_skip (gdN (b := false) 84 rfl rfl rfl) rfl ?_
        refine WL_skip (gdN (b := false) 84 rfl rfl rfl) rfl ?_
        refine WL_skip (gdN (b := false) 84 rfl rfl rfl) rfl ?_
        refine WL_val gd0 ((o_pickF (v := .bool false) rfl rfl rfl) _) rfl ?_
        refine WL_val gd0 ((o_assign (v := .bool false) rfl) _) rfl ?_
        refine WL_nil ?_
        refine nrm ?_
        refine WC_ret ?_
        refine rtE ?_
        exact gv1 rfl rfl h

/-- (*spacecraft history.History).Has -/
def F10 (h1 : Option Addr) (v2 : Int) (w3 : World) (k : Value → World → Prop) : Prop :=
  Does Try.prog 20 #[.pointer h1] w3 (fun v w4 => ∃ (x5 : Bool), v = .bool x5 ∧ if x5 = true then
  ∃ (p7 : Addr), h1 = some p7 ∧ ∃ (x_a9 : Option Addr) (x_n10 x_c11 : Nat), w4.cell? (p7.add 2) = some (.slice x_a9 x_n10 x_c11) ∧ Does Try.prog 21 #[.slice x_a9 x_n10 x_c11, .int .i64 v2] w4 (fun v w13 => ∃ (x14 : Bool), v = .bool x14 ∧ k (.bool x14) w13)
else
  k (.bool false) w4)
set_option maxRecDepth 100000 in
set_option maxHeartbeats 2000000 in
theorem w10 (h1 : Option Addr) (v2 : Int) (w3 : World) (k : Value → World → Prop) (h : F10 h1 v2 w3 k) : Does Try.prog 10 #[.pointer h1, .int .i64 v2] w3 k := by
  refine enter 15 Try.func10 rfl rfl rfl ?_
  intro ρ hρ
  have e0 := hρ 0 _ rfl
  have e1 := hρ 1 _ rfl
  unfold F10 at h
  refine WC_seq ?_
  refine WC_region ?_
  refine WL_val gd0 ((o_assign (v := .bool false) rfl) _) rfl ?_
  refine WL_nil ?_
  refine nrm ?_
  refine WC_seq ?_
  refine WC_region ?_
  refine WL_val gd0 ((o_move (v := .pointer h1) (by exact e0)) _) rfl ?_
  refine WL_call gd0 (o_call Try.call20 (argCons rfl argNil) _) rfl (h.mono ?_)
  rintro _ w4 ⟨x5, rfl, h⟩
  refine WL_val gd0 ((o_move (v := .bool x5) rfl) _) rfl ?_
  refine bsplit x5 (fun hb6 => ?_) (fun hb6 => ?_)
  · rw [if_pos hb6] at h
    refine WL_val (gdY (b := x5) 7 rfl rfl hb6) ((o_move (v := .pointer h1) (by exact e0)) _) rfl ?_
    obtain ⟨p7, q8, h⟩ := h
    refine WL_val (gdY (b := x5) 7 rfl rfl hb6) ((o_nilCheck (by exact (congrArg Value.pointer q8))) _) rfl ?_
    refine WL_val (gdY (b := x5) 7 rfl rfl hb6) ((o_fieldAddr 2 Try.underlying44 rfl Try.sizeOf25 rfl rfl rfl) _) rfl ?_
    obtain ⟨x_a9, x_n10, x_c11, hc12, h⟩ := h
    refine WL_val (gdY (b := x5) 7 rfl rfl hb6) (o_load Try.isAgg25 rfl hc12) rfl ?_
    refine WL_val (gdY (b := x5) 7 rfl rfl hb6) ((o_move (v := .int .i64 v2) (by exact e1)) _) rfl ?_
    refine WL_call (gdY (b := x5) 7 rfl rfl hb6) (o_call Try.call21 (argCons rfl (argCons rfl argNil)) _) rfl (h.mono ?_)
    rintro _ w13 ⟨x14, rfl, h⟩
    refine WL_val gd0 ((o_pickT (v := .bool x14) rfl hb6 rfl) _) rfl ?_
    refine WL_val gd0 ((o_assign (v := .bool x14) rfl) _) rfl ?_
    refine WL_nil ?_
    refine nrm ?_
    refine WC_ret ?_
    refine rtE ?_
    exact gv1 rfl rfl h
  · rw [if_neg (neT hb6)] at h
    refine WL_skip (gdN (b := x5) 7 rfl rfl hb6) rfl ?_
    refine WL_skip (gdN (b := x5) 7 rfl rfl hb6) rfl ?_
    refine WL_skip (gdN (b := x5) 7 rfl rfl hb6) rfl ?_
    refine WL_skip (gdN (b := x5) 7 rfl rfl hb6) rfl ?_
    refine WL_skip (gdN (b := x5) 7 rfl rfl hb6) rfl ?_
    refine WL_skip (gdN (b := x5) 7 rfl rfl hb6) rfl ?_
    refine WL_val gd0 ((o_pickF (v := .bool false) rfl hb6 rfl) _) rfl ?_
    refine WL_val gd0 ((o_assign (v := .bool false) rfl) _) rfl ?_
    refine WL_nil ?_
    refine nrm ?_
    refine WC_ret ?_
    refine rtE ?_
    exact gv1 rfl rfl h

def F11_b1 (h1 : Option Addr) (v2 : Int) (i7 : Int) (w8 : World) (k : Value → World → Prop) (nx8 : Int → World → Prop) : Prop :=
  ∃ (p10 : Addr), h1 = some p10 ∧ ∃ (x_a12 : Option Addr) (x_n13 x_c14 : Nat), w8.cell? (p10.add 2) = some (.slice x_a12 x_n13 x_c14) ∧ if i7 < (x_n13 : Int) then
  ∃ (x_a17 : Option Addr) (x_n18 x_c19 : Nat), w8.cell? (p10.add 2) = some (.slice x_a17 x_n18 x_c19) ∧ ∃ (p23 : Addr), x_a17 = some p23 ∧ (0 : Int) ≤ i7 ∧ i7 < (x_n18 : Int) ∧ ∃ (x25 : Int), w8.cell? (p23.add i7.toNat) = some (.int .i64 x25) ∧ if x25 = v2 then
    k (.bool true) w8
  else
    nx8 (IntKind.i64.wrap (i7 + 1)) w8
else
  k (.bool false) w8
/-- (*spacecraft spacecraftref09.History).Has -/
def F11 (h1 : Option Addr) (v2 : Int) (w3 : World) (k : Value → World → Prop) : Prop :=
  LoopP (fun (s : Int) w' nx' => F11_b1 h1 v2 s w' k (fun x0 w => nx' x0 w)) 0 w3
set_option maxRecDepth 100000 in
set_option maxHeartbeats 2000000 in
theorem w11 (h1 : Option Addr) (v2 : Int) (w3 : World) (k : Value → World → Prop) (h : F11 h1 v2 w3 k) : Does Try.prog 11 #[.pointer h1, .int .i64 v2] w3 k := by
  refine enter 24 Try.func11 rfl rfl rfl ?_
  intro ρ hρ
  have e0 := hρ 0 _ rfl
  have e1 := hρ 1 _ rfl
  unfold F11 at h
  refine WC_seq ?_
  refine WC_region ?_
  refine WL_val gd0 ((o_assign (v := .bool false) rfl) _) rfl ?_
  refine WL_nil ?_
  refine nrm ?_
  refine WC_seq ?_
  refine WC_seq ?_
  refine WC_region ?_
  refine WL_val gd0 ((o_assign (v := .int .i64 0) rfl) _) rfl ?_
  refine WL_nil ?_
  refine nrm ?_
  refine WC_block ?_
  obtain ⟨J8, ⟨n8, h0⟩, hr8⟩ := h
  refine WC_loop (fun n ρ w' => ∃ (i7 : Int), ρ 5 = .int .i64 i7 ∧ ρ 0 = .pointer h1 ∧ ρ 1 = .int .i64 v2 ∧ J8 n i7 w') ⟨n8, _, rfl, e0, e1, h0⟩ ?_
  rintro n8 ρ w8 ⟨i7, e5_6, e0_4, e1_5, h⟩
  have h : F11_b1 h1 v2 i7 w8 k (fun x0 w => ∃ m, m < n8 ∧ J8 m x0 w) := hr8 n8 i7 w8 h
  unfold F11_b1 at h
  refine WC_seq ?_
  refine WC_seq ?_
  refine WC_region ?_
  refine WL_val gd0 ((o_move (v := .int .i64 i7) (by exact e5_6)) _) rfl ?_
  refine WL_val gd0 ((o_move (v := .pointer h1) (by exact e0_4)) _) rfl ?_
  obtain ⟨p10, q11, h⟩ := h
  refine WL_val gd0 ((o_nilCheck (by exact (congrArg Value.pointer q11))) _) rfl ?_
  refine WL_val gd0 ((o_fieldAddr 2 Try.underlying27 rfl Try.sizeOf25 rfl rfl rfl) _) rfl ?_
  obtain ⟨x_a12, x_n13, x_c14, hc15, h⟩ := h
  refine WL_val gd0 (o_load Try.isAgg25 rfl hc15) rfl ?_
  refine WL_val gd0 ((o_len Try.underlying25 rfl) _) rfl ?_
  refine WL_val gd0 ((o_lss rfl rfl) _) rfl ?_
  refine WL_nil ?_
  refine nrm ?_
  refine WC_cond (t := (decide (i7 < (x_n13 : Int)))) rfl (fun hb16 => ?_) (fun hb16 => ?_)
  · rw [if_pos (of_decide_eq_true hb16)] at h
    refine WC_skip ?_
    refine nrm ?_
    refine WC_seq ?_
    refine WC_block ?_
    refine WC_seq ?_
    refine WC_region ?_
    refine WL_val gd0 ((o_move (v := .pointer h1) (by exact e0_4)) _) rfl ?_
    refine WL_val gd0 ((o_nilCheck (by exact (congrArg Value.pointer q11))) _) rfl ?_
    refine WL_val gd0 ((o_fieldAddr 2 Try.underlying27 rfl Try.sizeOf25 rfl rfl rfl) _) rfl ?_
    obtain ⟨x_a17, x_n18, x_c19, hc20, h⟩ := h
    refine WL_val gd0 (o_load Try.isAgg25 rfl hc20) rfl ?_
    refine WL_val gd0 ((o_move (v := .int .i64 i7) (by exact e5_6)) _) rfl ?_
    obtain ⟨p23, q24, h⟩ := h
    obtain ⟨l21, u22, h⟩ := h
    refine WL_val gd0 ((o_indexAddr1 Try.underlying25 Try.sizeOf3 (by exact (congrArg (fun z => Value.slice z x_n18 x_c19) q24)) rfl l21 u22) _) rfl ?_
    obtain ⟨x25, hc26, h⟩ := h
    refine WL_val gd0 (o_load Try.isAgg3 rfl hc26) rfl ?_
    refine WL_val gd0 ((o_move (v := .int .i64 v2) (by exact e1_5)) _) rfl ?_
    refine WL_val gd0 ((o_eql rfl rfl) _) rfl ?_
    refine WL_nil ?_
    refine nrm ?_
    refine WC_cond (t := (decide (x25 = v2))) rfl (fun hb27 => ?_) (fun hb27 => ?_)
    · rw [if_pos (of_decide_eq_true hb27)] at h
      refine WC_seq ?_
      refine WC_region ?_
      refine WL_val gd0 ((o_assign (v := .bool true) rfl) _) rfl ?_
      refine WL_nil ?_
      refine nrm ?_
      refine WC_ret ?_
      refine rtB ?_
      refine rtT ?_
      refine rtT ?_
      refine rtB ?_
      refine rtT ?_
      refine rtE ?_
      exact gv1 rfl rfl h
    · rw [if_neg (of_decide_eq_false hb27)] at h
      refine WC_skip ?_
      refine nrmB ?_
      refine nrm ?_
      refine WC_region ?_
      refine WL_val gd0 ((o_move (v := .int .i64 i7) (by exact e5_6)) _) rfl ?_
      refine WL_val gd0 ((o_add rfl rfl) _) rfl ?_
      refine WL_val gd0 ((o_assign (v := .int .i64 (IntKind.i64.wrap (i7 + 1))) rfl) _) rfl ?_
      refine WL_nil ?_
      refine nrm ?_
      obtain ⟨m9, hm9, h⟩ := h
      exact ⟨m9, hm9, _, rfl, e0_4, e1_5, h⟩
  · rw [if_neg (of_decide_eq_false hb16)] at h
    refine WC_exit ?_
    refine exT ?_
    refine exT ?_
    refine exB ?_
    refine nrm ?_
    refine WC_seq ?_
    refine WC_region ?_
    refine WL_val gd0 ((o_assign (v := .bool false) rfl) _) rfl ?_
    refine WL_nil ?_
    refine nrm ?_
    refine WC_ret ?_
    refine rtE ?_
    exact gv1 rfl rfl h

/-- (*spacecraft history.History).Add -/
def F12 (h1 : Option Addr) (v2 : Int) (w3 : World) (k : Value → World → Prop) : Prop :=
  Does Try.prog 20 #[.pointer h1] w3 (fun v w4 => ∃ (x5 : Bool), v = .bool x5 ∧ if (!x5) = true then
  k (.tuple #[.int .i64 0, .bool false]) w4
else
  ∃ (p7 : Addr), h1 = some p7 ∧ ∃ (x_a9 : Option Addr) (x_n10 x_c11 : Nat), w4.cell? (p7.add 2) = some (.slice x_a9 x_n10 x_c11) ∧ New w4 3 [.int .i64 v2] (fun p13 w14 => ∃ (b_a15 : Option Addr) (b_n16 b_c17 : Nat) (w18 : World), (Builtin.append_ #[25, 25] 25 #[.slice x_a9 x_n10 x_c11, .slice (some p13) 1 1]).run Try.prog w14 = .ok (.slice b_a15 b_n16 b_c17) w18 ∧ Put w18 (p7.add 2) (.slice b_a15 b_n16 b_c17) (fun w20 => ∃ (x_a22 : Option Addr) (x_n23 x_c24 : Nat), w20.drew.cell? (p7.add 2) = some (.slice x_a22 x_n23 x_c24) ∧ ∃ (x26 : Int), w20.drew.cell? (p7.add 1) = some (.int .i64 x26) ∧ if (x_n23 : Int) ≤ x26 then
    k (.tuple #[.int .i64 0, .bool false]) w20.drew
  else
    ∃ (x_a29 : Option Addr) (x_n30 x_c31 : Nat), w20.drew.cell? (p7.add 2) = some (.slice x_a29 x_n30 x_c31) ∧ ∃ (p35 : Addr), x_a29 = some p35 ∧ (0 : Int) ≤ 0 ∧ 0 < (x_n30 : Int) ∧ ∃ (old37 : Int), w20.drew.cell? (p35.add ((0 : Int).toNat)) = some (.int .i64 old37) ∧ ∃ (x_a39 : Option Addr) (x_n40 x_c41 : Nat), w20.drew.cell? (p7.add 2) = some (.slice x_a39 x_n40 x_c41) ∧ Does Try.prog 22 #[.slice x_a39 x_n40 x_c41, .int .i64 0, .int .i64 1] w20.drew (fun v w43 => ∃ (x_a44 : Option Addr) (x_n45 x_c46 : Nat), v = .slice x_a44 x_n45 x_c46 ∧ Put w43 (p7.add 2) (.slice x_a44 x_n45 x_c46) (fun w47 => ∃ (x49 : Int), w47.cell? (p7.add 3) = some (.int .i64 x49) ∧ Put w47 (p7.add 3) (.int .i64 (IntKind.i64.wrap (x49 + 1))) (fun w51 => k (.tuple #[.int .i64 old37, .bool true]) w51))))))
set_option maxRecDepth 100000 in
set_option maxHeartbeats 2000000 in
theorem w12 (h1 : Option Addr) (v2 : Int) (w3 : World) (k : Value → World → Prop) (h : F12 h1 v2 w3 k) : Does Try.prog 12 #[.pointer h1, .int .i64 v2] w3 k := by
  refine enter 52 Try.func12 rfl rfl rfl ?_
  intro ρ hρ
  have e0 := hρ 0 _ rfl
  have e1 := hρ 1 _ rfl
  unfold F12 at h
  refine WC_seq ?_
  refine WC_region ?_
  refine WL_val gd0 ((o_assign (v := .int .i64 0) rfl) _) rfl ?_
  refine WL_val gd0 ((o_assign (v := .bool false) rfl) _) rfl ?_
  refine WL_nil ?_
  refine nrm ?_
  refine WC_seq ?_
  refine WC_seq ?_
  refine WC_region ?_
  refine WL_val gd0 ((o_move (v := .pointer h1) (by exact e0)) _) rfl ?_
  refine WL_call gd0 (o_call Try.call20 (argCons rfl argNil) _) rfl (h.mono ?_)
  rintro _ w4 ⟨x5, rfl, h⟩
  refine WL_val gd0 ((o_not rfl) _) rfl ?_
  refine WL_nil ?_
  refine nrm ?_
  refine WC_cond (t := (!x5)) rfl (fun hb6 => ?_) (fun hb6 => ?_)
  · rw [if_pos hb6] at h
    refine WC_seq ?_
    refine WC_region ?_
    refine WL_val gd0 ((o_assign (v := .int .i64 0) rfl) _) rfl ?_
    refine WL_val gd0 ((o_assign (v := .bool false) rfl) _) rfl ?_
    refine WL_nil ?_
    refine nrm ?_
    refine WC_ret ?_
    refine rtT ?_
    refine rtE ?_
    exact gv2 rfl rfl rfl h
  · rw [if_neg (neT hb6)] at h
    refine WC_skip ?_
    refine nrm ?_
    refine WC_seq ?_
    refine WC_region ?_
    refine WL_val gd0 ((o_move (v := .pointer h1) (by exact e0)) _) rfl ?_
    refine WL_val gd0 ((o_move (v := .pointer h1) (by exact e0)) _) rfl ?_
    obtain ⟨p7, q8, h⟩ := h
    refine WL_val gd0 ((o_nilCheck (by exact (congrArg Value.pointer q8))) _) rfl ?_
    refine WL_val gd0 ((o_fieldAddr 2 Try.underlying44 rfl Try.sizeOf25 rfl rfl rfl) _) rfl ?_
    obtain ⟨x_a9, x_n10, x_c11, hc12, h⟩ := h
    refine WL_val gd0 (o_load Try.isAgg25 rfl hc12) rfl ?_
    refine WL_val gd0 ((o_move (v := .int .i64 v2) (by exact e1)) _) rfl ?_
    have h := New.out h
    refine WL_val gd0 (o_buildSlice (e := 3) (ps := [(0, .int .i64 v2)]) (cs := [.int .i64 v2]) (partCons rfl partNil) (fun w => by kernel_rfl)) rfl ?_
    generalize hp13 : fresh w4 = p13 at h ⊢
    generalize hw14 : push w4 3 [.int .i64 v2] = w14 at h ⊢
    try dsimp only at h
    obtain ⟨b_a15, b_n16, b_c17, w18, r19, h⟩ := h
    refine WL_val gd0 (o_append rfl rfl r19) rfl ?_
    refine WL_val gd0 ((o_nilCheck (by exact (congrArg Value.pointer q8))) _) rfl ?_
    refine WL_val gd0 ((o_fieldAddr 2 Try.underlying44 rfl Try.sizeOf25 rfl rfl rfl) _) rfl ?_
    obtain ⟨c21, h⟩ := h
    refine WL_act gd0 (o_store (v := .slice b_a15 b_n16 b_c17) Try.sizeOf25 rfl rfl rfl c21) ?_
    generalize hw20 : World.setCell w18 (p7.add 2) (.slice b_a15 b_n16 b_c17) = w20 at h ⊢
    try dsimp only at h
    refine WL_nil ?_
    refine nrm ?_
    refine WC_seq ?_
    refine WC_seq ?_
    refine WC_draws [(0, true), (1, true), (2, true), (3, true), (4, true), (5, true), (6, true), (7, true), (8, true), (9, true)] Try.mixed (by kernel_rfl) ?_
    refine WQ_val rfl gd0 (o_move (v := .pointer h1) (by exact e0)) rfl ?_
    refine WQ_val rfl gd0 (o_nilCheck (by exact (congrArg Value.pointer q8))) rfl ?_
    refine WQ_val rfl gd0 (o_fieldAddr 2 Try.underlying44 rfl Try.sizeOf25 rfl rfl rfl) rfl ?_
    obtain ⟨x_a22, x_n23, x_c24, hc25, h⟩ := h
    refine WQ_look (fun w => w.cell? (p7.add 2) = some (.slice x_a22 x_n23 x_c24)) rfl gd0 (fun w hc => (o_load Try.isAgg25 rfl hc)) hc25 rfl ?_
    refine WQ_val rfl gd0 (o_len Try.underlying25 rfl) rfl ?_
    refine WQ_val rfl gd0 (o_move (v := .pointer h1) (by exact e0)) rfl ?_
    refine WQ_val rfl gd0 (o_nilCheck (by exact (congrArg Value.pointer q8))) rfl ?_
    refine WQ_val rfl gd0 (o_fieldAddr 1 Try.underlying44 rfl Try.sizeOf3 rfl rfl rfl) rfl ?_
    obtain ⟨x26, hc27, h⟩ := h
    refine WQ_look (fun w => w.cell? (p7.add 1) = some (.int .i64 x26)) rfl gd0 (fun w hc => (o_load Try.isAgg3 rfl hc)) hc27 rfl ?_
    refine WQ_val rfl gd0 (o_leq rfl rfl) rfl ?_
    refine WQ_nil ?_
    refine nrm ?_
    refine WC_cond (t := (decide ((x_n23 : Int) ≤ x26))) rfl (fun hb28 => ?_) (fun hb28 => ?_)
    · rw [if_pos (of_decide_eq_true hb28)] at h
      refine WC_seq ?_
      refine WC_region ?_
      refine WL_val gd0 ((o_assign (v := .int .i64 0) rfl) _) rfl ?_
      refine WL_val gd0 ((o_assign (v := .bool false) rfl) _) rfl ?_
      refine WL_nil ?_
      refine nrm ?_
      refine WC_ret ?_
      refine rtT ?_
      refine rtE ?_
      exact gv2 rfl rfl rfl h
    · rw [if_neg (of_decide_eq_false hb28)] at h
      refine WC_skip ?_
      refine nrm ?_
      refine WC_seq ?_
      refine WC_region ?_
      refine WL_val gd0 ((o_move (v := .pointer h1) (by exact e0)) _) rfl ?_
      refine WL_val gd0 ((o_nilCheck (by exact (congrArg Value.pointer q8))) _) rfl ?_
      refine WL_val gd0 ((o_fieldAddr 2 Try.underlying44 rfl Try.sizeOf25 rfl rfl rfl) _) rfl ?_
      obtain ⟨x_a29, x_n30, x_c31, hc32, h⟩ := h
      refine WL_val gd0 (o_load Try.isAgg25 rfl hc32) rfl ?_
      obtain ⟨p35, q36, h⟩ := h
      obtain ⟨l33, u34, h⟩ := h
      refine WL_val gd0 ((o_indexAddr1 Try.underlying25 Try.sizeOf3 (by exact (congrArg (fun z => Value.slice z x_n30 x_c31) q36)) rfl l33 u34) _) rfl ?_
      obtain ⟨old37, hc38, h⟩ := h
      refine WL_val gd0 (o_load Try.isAgg3 rfl hc38) rfl ?_
      refine WL_val gd0 ((o_assign (v := .int .i64 old37) rfl) _) rfl ?_
      refine WL_nil ?_
      refine nrm ?_
      refine WC_seq ?_
      refine WC_region ?_
      refine WL_val gd0 ((o_move (v := .pointer h1) (by exact e0)) _) rfl ?_
      refine WL_val gd0 ((o_move (v := .pointer h1) (by exact e0)) _) rfl ?_
      refine WL_val gd0 ((o_nilCheck (by exact (congrArg Value.pointer q8))) _) rfl ?_
      refine WL_val gd0 ((o_fieldAddr 2 Try.underlying44 rfl Try.sizeOf25 rfl rfl rfl) _) rfl ?_
      obtain ⟨x_a39, x_n40, x_c41, hc42, h⟩ := h
      refine WL_val gd0 (o_load Try.isAgg25 rfl hc42) rfl ?_
      refine WL_call gd0 (o_call Try.call22 (argCons rfl (argCons rfl (argCons rfl argNil))) _) rfl (h.mono ?_)
      rintro _ w43 ⟨x_a44, x_n45, x_c46, rfl, h⟩
      refine WL_val gd0 ((o_nilCheck (by exact (congrArg Value.pointer q8))) _) rfl ?_
      refine WL_val gd0 ((o_fieldAddr 2 Try.underlying44 rfl Try.sizeOf25 rfl rfl rfl) _) rfl ?_
      obtain ⟨c48, h⟩ := h
      refine WL_act gd0 (o_store (v := .slice x_a44 x_n45 x_c46) Try.sizeOf25 rfl rfl rfl c48) ?_
      generalize hw47 : World.setCell w43 (p7.add 2) (.slice x_a44 x_n45 x_c46) = w47 at h ⊢
      try dsimp only at h
      refine WL_nil ?_
      refine nrm ?_
      refine WC_seq ?_
      refine WC_region ?_
      refine WL_val gd0 ((o_move (v := .pointer h1) (by exact e0)) _) rfl ?_
      refine WL_val gd0 ((o_nilCheck (by exact (congrArg Value.pointer q8))) _) rfl ?_
      refine WL_val gd0 ((o_fieldAddr 3 Try.underlying44 rfl Try.sizeOf3 rfl rfl rfl) _) rfl ?_
      obtain ⟨x49, hc50, h⟩ := h
      refine WL_val gd0 (o_load Try.isAgg3 rfl hc50) rfl ?_
      refine WL_val gd0 ((o_add rfl rfl) _) rfl ?_
      refine WL_val gd0 ((o_nilCheck (by exact (congrArg Value.pointer q8))) _) rfl ?_
      refine WL_val gd0 ((o_fieldAddr 3 Try.underlying44 rfl Try.sizeOf3 rfl rfl rfl) _) rfl ?_
      obtain ⟨c52, h⟩ := h
      refine WL_act gd0 (o_store (v := .int .i64 (IntKind.i64.wrap (x49 + 1))) Try.sizeOf3 rfl rfl rfl c52) ?_
      generalize hw51 : World.setCell w47 (p7.add 3) (.int .i64 (IntKind.i64.wrap (x49 + 1))) = w51 at h ⊢
      try dsimp only at h
      refine WL_nil ?_
      refine nrm ?_
      refine WC_seq ?_
      refine WC_region ?_
      refine WL_val gd0 ((o_move (v := .int .i64 old37) rfl) _) rfl ?_
      refine WL_val gd0 ((o_assign (v := .int .i64 old37) rfl) _) rfl ?_
      refine WL_val gd0 ((o_assign (v := .bool true) rfl) _) rfl ?_
      refine WL_nil ?_
      refine nrm ?_
      refine WC_ret ?_
      refine rtE ?_
      exact gv2 rfl rfl rfl h

/-- (*spacecraft spacecraftref09.History).Add -/
def F13 (h1 : Option Addr) (v2 : Int) (w3 : World) (k : Value → World → Prop) : Prop :=
  ∃ (p4 : Addr), h1 = some p4 ∧ ∃ (x_a6 : Option Addr) (x_n7 x_c8 : Nat), w3.cell? (p4.add 2) = some (.slice x_a6 x_n7 x_c8) ∧ Does Try.prog 23 #[.slice x_a6 x_n7 x_c8] w3 (fun v w10 => ∃ (x_a11 : Option Addr) (x_n12 x_c13 : Nat), v = .slice x_a11 x_n12 x_c13 ∧ New w10 3 [.int .i64 v2] (fun p14 w15 => ∃ (b_a16 : Option Addr) (b_n17 b_c18 : Nat) (w19 : World), (Builtin.append_ #[25, 25] 25 #[.slice x_a11 x_n12 x_c13, .slice (some p14) 1 1]).run Try.prog w15 = .ok (.slice b_a16 b_n17 b_c18) w19 ∧ Put w19 (p4.add 2) (.slice b_a16 b_n17 b_c18) (fun w21 => ∃ (x_a23 : Option Addr) (x_n24 x_c25 : Nat), w21.drew.cell? (p4.add 2) = some (.slice x_a23 x_n24 x_c25) ∧ ∃ (x27 : Int), w21.drew.cell? p4 = some (.int .i64 x27) ∧ if (x_n24 : Int) ≤ x27 then
  k (.tuple #[.int .i64 0, .bool false]) w21.drew
else
  ∃ (x_a30 : Option Addr) (x_n31 x_c32 : Nat), w21.drew.cell? (p4.add 2) = some (.slice x_a30 x_n31 x_c32) ∧ ∃ (p36 : Addr), x_a30 = some p36 ∧ (0 : Int) ≤ 0 ∧ 0 < (x_n31 : Int) ∧ ∃ (x38 : Int), w21.drew.cell? (p36.add ((0 : Int).toNat)) = some (.int .i64 x38) ∧ ∃ (x_a40 : Option Addr) (x_n41 x_c42 : Nat), w21.drew.cell? (p4.add 2) = some (.slice x_a40 x_n41 x_c42) ∧ (0 : Int) ≤ 1 ∧ 1 ≤ (x_n41 : Int) ∧ Does Try.prog 23 #[.slice (cutA x_a40 x_c42 ((1 : Int).toNat) 1) (x_n41 - (1 : Int).toNat) (x_c42 - (1 : Int).toNat)] w21.drew (fun v w46 => ∃ (x_a47 : Option Addr) (x_n48 x_c49 : Nat), v = .slice x_a47 x_n48 x_c49 ∧ Put w46 (p4.add 2) (.slice x_a47 x_n48 x_c49) (fun w50 => ∃ (x52 : Int), w50.cell? (p4.add 1) = some (.int .i64 x52) ∧ Put w50 (p4.add 1) (.int .i64 (IntKind.i64.wrap (x52 + 1))) (fun w54 => k (.tuple #[.int .i64 x38, .bool true]) w54))))))
set_option maxRecDepth 100000 in
set_option maxHeartbeats 2000000 in
theorem w13 (h1 : Option Addr) (v2 : Int) (w3 : World) (k : Value → World → Prop) (h : F13 h1 v2 w3 k) : Does Try.prog 13 #[.pointer h1, .int .i64 v2] w3 k := by
  refine enter 52 Try.func13 rfl rfl rfl ?_
  intro ρ hρ
  have e0 := hρ 0 _ rfl
  have e1 := hρ 1 _ rfl
  unfold F13 at h
  refine WC_seq ?_
  refine WC_region ?_
  refine WL_val gd0 ((o_assign (v := .int .i64 0) rfl) _) rfl ?_
  refine WL_val gd0 ((o_assign (v := .bool false) rfl) _) rfl ?_
  refine WL_nil ?_
  refine nrm ?_
  refine WC_seq ?_
  refine WC_region ?_
  refine WL_val gd0 ((o_move (v := .pointer h1) (by exact e0)) _) rfl ?_
  refine WL_val gd0 ((o_move (v := .pointer h1) (by exact e0)) _) rfl ?_
  obtain ⟨p4, q5, h⟩ := h
  refine WL_val gd0 ((o_nilCheck (by exact (congrArg Value.pointer q5))) _) rfl ?_
  refine WL_val gd0 ((o_fieldAddr 2 Try.underlying27 rfl Try.sizeOf25 rfl rfl rfl) _) rfl ?_
  obtain ⟨x_a6, x_n7, x_c8, hc9, h⟩ := h
  refine WL_val gd0 (o_load Try.isAgg25 rfl hc9) rfl ?_
  refine WL_call gd0 (o_call Try.call23 (argCons rfl argNil) _) rfl (h.mono ?_)
  rintro _ w10 ⟨x_a11, x_n12, x_c13, rfl, h⟩
  refine WL_val gd0 ((o_move (v := .int .i64 v2) (by exact e1)) _) rfl ?_
  have h := New.out h
  refine WL_val gd0 (o_buildSlice (e := 3) (ps := [(0, .int .i64 v2)]) (cs := [.int .i64 v2]) (partCons rfl partNil) (fun w => by kernel_rfl)) rfl ?_
  generalize hp14 : fresh w10 = p14 at h ⊢
  generalize hw15 : push w10 3 [.int .i64 v2] = w15 at h ⊢
  try dsimp only at h
  obtain ⟨b_a16, b_n17, b_c18, w19, r20, h⟩ := h
  refine WL_val gd0 (o_append rfl rfl r20) rfl ?_
  refine WL_val gd0 ((o_nilCheck (by exact (congrArg Value.pointer q5))) _) rfl ?_
  refine WL_val gd0 ((o_fieldAddr 2 Try.underlying27 rfl Try.sizeOf25 rfl rfl rfl) _) rfl ?_
  obtain ⟨c22, h⟩ := h
  refine WL_act gd0 (o_store (v := .slice b_a16 b_n17 b_c18) Try.sizeOf25 rfl rfl rfl c22) ?_
  generalize hw21 : World.setCell w19 (p4.add 2) (.slice b_a16 b_n17 b_c18) = w21 at h ⊢
  try dsimp only at h
  refine WL_nil ?_
  refine nrm ?_
  refine WC_seq ?_
  refine WC_seq ?_
  refine WC_draws [(0, true), (1, true), (2, true), (3, true), (4, true), (5, true), (6, true), (7, true), (8, true), (9, true)] Try.mixed (by kernel_rfl) ?_
  refine WQ_val rfl gd0 (o_move (v := .pointer h1) (by exact e0)) rfl ?_
  refine WQ_val rfl gd0 (o_nilCheck (by exact (congrArg Value.pointer q5))) rfl ?_
  refine WQ_val rfl gd0 (o_fieldAddr 2 Try.underlying27 rfl Try.sizeOf25 rfl rfl rfl) rfl ?_
  obtain ⟨x_a23, x_n24, x_c25, hc26, h⟩ := h
  refine WQ_look (fun w => w.cell? (p4.add 2) = some (.slice x_a23 x_n24 x_c25)) rfl gd0 (fun w hc => (o_load Try.isAgg25 rfl hc)) hc26 rfl ?_
  refine WQ_val rfl gd0 (o_len Try.underlying25 rfl) rfl ?_
  refine WQ_val rfl gd0 (o_move (v := .pointer h1) (by exact e0)) rfl ?_
  refine WQ_val rfl gd0 (o_nilCheck (by exact (congrArg Value.pointer q5))) rfl ?_
  refine WQ_val rfl gd0 (o_fieldAddr0 Try.underlying27 rfl Try.sizeOf3 rfl rfl rfl) rfl ?_
  obtain ⟨x27, hc28, h⟩ := h
  refine WQ_look (fun w => w.cell? p4 = some (.int .i64 x27)) rfl gd0 (fun w hc => (o_load Try.isAgg3 rfl hc)) hc28 rfl ?_
  refine WQ_val rfl gd0 (o_leq rfl rfl) rfl ?_
  refine WQ_nil ?_
  refine nrm ?_
  refine WC_cond (t := (decide ((x_n24 : Int) ≤ x27))) rfl (fun hb29 => ?_) (fun hb29 => ?_)
  · rw [if_pos (of_decide_eq_true hb29)] at h
    refine WC_seq ?_
    refine WC_region ?_
    refine WL_val gd0 ((o_assign (v := .int .i64 0) rfl) _) rfl ?_
    refine WL_val gd0 ((o_assign (v := .bool false) rfl) _) rfl ?_
    refine WL_nil ?_
    refine nrm ?_
    refine WC_ret ?_
    refine rtT ?_
    refine rtE ?_
    exact gv2 rfl rfl rfl h
  · rw [if_neg (of_decide_eq_false hb29)] at h
    refine WC_skip ?_
    refine nrm ?_
    refine WC_seq ?_
    refine WC_region ?_
    refine WL_val gd0 ((o_move (v := .pointer h1) (by exact e0)) _) rfl ?_
    refine WL_val gd0 ((o_nilCheck (by exact (congrArg Value.pointer q5))) _) rfl ?_
    refine WL_val gd0 ((o_fieldAddr 2 Try.underlying27 rfl Try.sizeOf25 rfl rfl rfl) _) rfl ?_
    obtain ⟨x_a30, x_n31, x_c32, hc33, h⟩ := h
    refine WL_val gd0 (o_load Try.isAgg25 rfl hc33) rfl ?_
    obtain ⟨p36, q37, h⟩ := h
    obtain ⟨l34, u35, h⟩ := h
    refine WL_val gd0 ((o_indexAddr1 Try.underlying25 Try.sizeOf3 (by exact (congrArg (fun z => Value.slice z x_n31 x_c32) q37)) rfl l34 u35) _) rfl ?_
    obtain ⟨x38, hc39, h⟩ := h
    refine WL_val gd0 (o_load Try.isAgg3 rfl hc39) rfl ?_
    refine WL_val gd0 ((o_assign (v := .int .i64 x38) rfl) _) rfl ?_
    refine WL_nil ?_
    refine nrm ?_
    refine WC_seq ?_
    refine WC_region ?_
    refine WL_val gd0 ((o_move (v := .pointer h1) (by exact e0)) _) rfl ?_
    refine WL_val gd0 ((o_move (v := .pointer h1) (by exact e0)) _) rfl ?_
    refine WL_val gd0 ((o_nilCheck (by exact (congrArg Value.pointer q5))) _) rfl ?_
    refine WL_val gd0 ((o_fieldAddr 2 Try.underlying27 rfl Try.sizeOf25 rfl rfl rfl) _) rfl ?_
    obtain ⟨x_a40, x_n41, x_c42, hc43, h⟩ := h
    refine WL_val gd0 (o_load Try.isAgg25 rfl hc43) rfl ?_
    obtain ⟨c44, c45, h⟩ := h
    refine WL_val gd0 ((o_sliceL Try.underlying25 Try.sizeOf3 rfl rfl c44 c45) _) rfl ?_
    refine WL_call gd0 (o_call Try.call23 (argCons rfl argNil) _) rfl (h.mono ?_)
    rintro _ w46 ⟨x_a47, x_n48, x_c49, rfl, h⟩
    refine WL_val gd0 ((o_nilCheck (by exact (congrArg Value.pointer q5))) _) rfl ?_
    refine WL_val gd0 ((o_fieldAddr 2 Try.underlying27 rfl Try.sizeOf25 rfl rfl rfl) _) rfl ?_
    obtain ⟨c51, h⟩ := h
    refine WL_act gd0 (o_store (v := .slice x_a47 x_n48 x_c49) Try.sizeOf25 rfl rfl rfl c51) ?_
    generalize hw50 : World.setCell w46 (p4.add 2) (.slice x_a47 x_n48 x_c49) = w50 at h ⊢
    try dsimp only at h
    refine WL_nil ?_
    refine nrm ?_
    refine WC_seq ?_
    refine WC_region ?_
    refine WL_val gd0 ((o_move (v := .pointer h1) (by exact e0)) _) rfl ?_
    refine WL_val gd0 ((o_move (v := .pointer h1) (by exact e0)) _) rfl ?_
    refine WL_val gd0 ((o_nilCheck (by exact (congrArg Value.pointer q5))) _) rfl ?_
    refine WL_val gd0 ((o_fieldAddr 1 Try.underlying27 rfl Try.sizeOf3 rfl rfl rfl) _) rfl ?_
    obtain ⟨x52, hc53, h⟩ := h
    refine WL_val gd0 (o_load Try.isAgg3 rfl hc53) rfl ?_
    refine WL_val gd0 ((o_add rfl rfl) _) rfl ?_
    refine WL_val gd0 ((o_nilCheck (by exact (congrArg Value.pointer q5))) _) rfl ?_
    refine WL_val gd0 ((o_fieldAddr 1 Try.underlying27 rfl Try.sizeOf3 rfl rfl rfl) _) rfl ?_
    obtain ⟨c55, h⟩ := h
    refine WL_act gd0 (o_store (v := .int .i64 (IntKind.i64.wrap (x52 + 1))) Try.sizeOf3 rfl rfl rfl c55) ?_
    generalize hw54 : World.setCell w50 (p4.add 1) (.int .i64 (IntKind.i64.wrap (x52 + 1))) = w54 at h ⊢
    try dsimp only at h
    refine WL_nil ?_
    refine nrm ?_
    refine WC_seq ?_
    refine WC_region ?_
    refine WL_val gd0 ((o_move (v := .int .i64 x38) rfl) _) rfl ?_
    refine WL_val gd0 ((o_assign (v := .int .i64 x38) rfl) _) rfl ?_
    refine WL_val gd0 ((o_assign (v := .bool true) rfl) _) rfl ?_
    refine WL_nil ?_
    refine nrm ?_
    refine WC_ret ?_
    refine rtE ?_
    exact gv2 rfl rfl rfl h

/-- spacecraft spacecraftlaw09.agrees -/
def F14 (h1 : Option Addr) (x2 : Int) (x3 : Int) (x_a4 : Option Addr) (x_n5 : Nat) (x_c6 : Nat) (w7 : World) (k : Value → World → Prop) : Prop :=
  New w7 27 [.int .i64 x2, .int .i64 x3, .slice x_a4 x_n5 x_c6] (fun p8 w9 => ∃ (x_a10 : Option Addr) (x_n11 x_c12 : Nat), w9.drew.cell? (p8.add 2) = some (.slice x_a10 x_n11 x_c12) ∧ Does Try.prog 16 #[.pointer h1] w9.drew (fun v w14 => ∃ (x_a15 : Option Addr) (x_n16 x_c17 : Nat), v = .slice x_a15 x_n16 x_c17 ∧ w14.cell? (p8.add 2) = some (.slice x_a10 x_n11 x_c12) ∧ Does Try.prog 15 #[.slice x_a15 x_n16 x_c17, .slice x_a10 x_n11 x_c12] w14 (fun v w19 => ∃ (x20 : Bool), v = .bool x20 ∧ if x20 = true then
  ∃ (x_a22 : Option Addr) (x_n23 x_c24 : Nat), w19.cell? (p8.add 2) = some (.slice x_a22 x_n23 x_c24) ∧ Does Try.prog 19 #[.pointer h1] w19 (fun v w26 => ∃ (x27 : Int), v = .int .i64 x27 ∧ w26.cell? (p8.add 2) = some (.slice x_a22 x_n23 x_c24) ∧ if x27 = (x_n23 : Int) then
    ∃ (x30 : Int), w26.cell? (p8.add 1) = some (.int .i64 x30) ∧ Does Try.prog 17 #[.pointer h1] w26 (fun v w32 => ∃ (x33 : Int), v = .int .i64 x33 ∧ w32.cell? (p8.add 1) = some (.int .i64 x30) ∧ k (.bool (decide (x33 = x30))) w32)
  else
    k (.bool false) w26)
else
  k (.bool false) w19)))
set_option maxRecDepth 100000 in
set_option maxHeartbeats 2000000 in
theorem w14 (h1 : Option Addr) (x2 : Int) (x3 : Int) (x_a4 : Option Addr) (x_n5 : Nat) (x_c6 : Nat) (w7 : World) (k : Value → World → Prop) (h : F14 h1 x2 x3 x_a4 x_n5 x_c6 w7 k) : Does Try.prog 14 #[.pointer h1, .agg #[.int .i64 x2, .int .i64 x3, .slice x_a4 x_n5 x_c6]] w7 k := by
  refine enter 25 Try.func14 rfl rfl rfl ?_
  intro ρ hρ
  have e0 := hρ 0 _ rfl
  have e1 := hρ 1 _ rfl
  unfold F14 at h
  refine WC_seq ?_
  refine WC_region ?_
  have h := New.out h
  refine WL_val gd0 (o_box (v := .agg #[.int .i64 x2, .int .i64 x3, .slice x_a4 x_n5 x_c6]) (cs := [.int .i64 x2, .int .i64 x3, .slice x_a4 x_n5 x_c6]) (by exact e1) rfl) rfl ?_
  generalize hp8 : fresh w7 = p8 at h ⊢
  generalize hw9 : push w7 27 [.int .i64 x2, .int .i64 x3, .slice x_a4 x_n5 x_c6] = w9 at h ⊢
  try dsimp only at h
  refine WL_val gd0 ((o_assign (v := .bool false) rfl) _) rfl ?_
  refine WL_nil ?_
  refine nrm ?_
  refine WC_seq ?_
  refine WC_draws [(0, true), (2, true), (3, true), (1, false), (4, false), (5, true), (6, true), (8, true), (9, true), (10, true), (7, false), (11, true), (12, true), (13, true), (14, true), (16, true), (17, true), (15, false), (18, true), (19, true), (20, true)] Try.mixed (by kernel_rfl) ?_
  refine WQ_val rfl gd0 (o_move (v := .pointer h1) (by exact e0)) rfl ?_
  refine WQ_val rfl gd0 (o_fieldAddr 2 Try.underlying27 rfl Try.sizeOf25 rfl rfl rfl) rfl ?_
  obtain ⟨x_a10, x_n11, x_c12, hc13, h⟩ := h
  refine WQ_look (fun w => w.cell? (p8.add 2) = some (.slice x_a10 x_n11 x_c12)) rfl gd0 (fun w hc => (o_load Try.isAgg25 rfl hc)) hc13 rfl ?_
  refine WQ_call rfl gd0 (o_call Try.call16 (argCons rfl argNil) _) rfl (h.mono ?_)
  rintro _ w14 ⟨x_a15, x_n16, x_c17, rfl, hh18, h⟩
  refine ⟨⟨trivial, fun _ => hh18⟩, ?_⟩
  refine WQ_call rfl gd0 (o_call Try.call15 (argCons rfl (argCons rfl argNil)) _) rfl (h.mono ?_)
  rintro _ w19 ⟨x20, rfl, h⟩
  refine ⟨⟨trivial, depT (by kernel_rfl)⟩, ?_⟩
  refine WQ_val rfl gd0 (o_move (v := .bool x20) rfl) rfl ?_
  refine bsplit x20 (fun hb21 => ?_) (fun hb21 => ?_)
  · rw [if_pos hb21] at h
    refine WQ_val rfl (gdY (b := x20) 10 rfl rfl hb21) (o_move (v := .pointer h1) (by exact e0)) rfl ?_
    refine WQ_val rfl (gdY (b := x20) 10 rfl rfl hb21) (o_fieldAddr 2 Try.underlying27 rfl Try.sizeOf25 rfl rfl rfl) rfl ?_
    obtain ⟨x_a22, x_n23, x_c24, hc25, h⟩ := h
    refine WQ_look (fun w => w.cell? (p8.add 2) = some (.slice x_a22 x_n23 x_c24)) rfl (gdY (b := x20) 10 rfl rfl hb21) (fun w hc => (o_load Try.isAgg25 rfl hc)) hc25 rfl ?_
    refine WQ_val rfl (gdY (b := x20) 10 rfl rfl hb21) (o_len Try.underlying25 rfl) rfl ?_
    refine WQ_call rfl (gdY (b := x20) 10 rfl rfl hb21) (o_call Try.call19 (argCons rfl argNil) _) rfl (h.mono ?_)
    rintro _ w26 ⟨x27, rfl, hh28, h⟩
    refine ⟨⟨⟨trivial, depT (by kernel_rfl)⟩, fun _ => hh28⟩, ?_⟩
    refine WQ_val rfl (gdY (b := x20) 10 rfl rfl hb21) (o_eql rfl rfl) rfl ?_
    refine WQ_val rfl gd0 (o_pickT (v := .bool (decide (x27 = (x_n23 : Int)))) rfl hb21 rfl) rfl ?_
    refine WQ_val rfl gd0 (o_move (v := .bool (decide (x27 = (x_n23 : Int)))) rfl) rfl ?_
    refine bsplit (decide (x27 = (x_n23 : Int))) (fun hb29 => ?_) (fun hb29 => ?_)
    · rw [if_pos (of_decide_eq_true hb29)] at h
      refine WQ_val rfl (gdY (b := (decide (x27 = (x_n23 : Int)))) 18 rfl rfl hb29) (o_move (v := .pointer h1) (by exact e0)) rfl ?_
      refine WQ_val rfl (gdY (b := (decide (x27 = (x_n23 : Int)))) 18 rfl rfl hb29) (o_fieldAddr 1 Try.underlying27 rfl Try.sizeOf3 rfl rfl rfl) rfl ?_
      obtain ⟨x30, hc31, h⟩ := h
      refine WQ_look (fun w => w.cell? (p8.add 1) = some (.int .i64 x30)) rfl (gdY (b := (decide (x27 = (x_n23 : Int)))) 18 rfl rfl hb29) (fun w hc => (o_load Try.isAgg3 rfl hc)) hc31 rfl ?_
      refine WQ_call rfl (gdY (b := (decide (x27 = (x_n23 : Int)))) 18 rfl rfl hb29) (o_call Try.call17 (argCons rfl argNil) _) rfl (h.mono ?_)
      rintro _ w32 ⟨x33, rfl, hh34, h⟩
      refine ⟨⟨⟨⟨trivial, depT (by kernel_rfl)⟩, depT (by kernel_rfl)⟩, fun _ => hh34⟩, ?_⟩
      refine WQ_val rfl (gdY (b := (decide (x27 = (x_n23 : Int)))) 18 rfl rfl hb29) (o_eql rfl rfl) rfl ?_
      refine WQ_val rfl gd0 (o_pickT (v := .bool (decide (x33 = x30))) rfl hb29 rfl) rfl ?_
      refine WQ_val rfl gd0 (o_assign (v := .bool (decide (x33 = x30))) rfl) rfl ?_
      refine WQ_nil ?_
      refine nrm ?_
      refine WC_ret ?_
      refine rtE ?_
      exact gv1 rfl rfl h
    · rw [if_neg (of_decide_eq_false hb29)] at h
      refine WQ_skip rfl (gdN (b := (decide (x27 = (x_n23 : Int)))) 18 rfl rfl hb29) rfl ?_
      refine WQ_skip rfl (gdN (b := (decide (x27 = (x_n23 : Int)))) 18 rfl rfl hb29) rfl ?_
      refine WQ_skip rfl (gdN (b := (decide (x27 = (x_n23 : Int)))) 18 rfl rfl hb29) rfl ?_
      refine WQ_passAct rfl (gdN (b := (decide (x27 = (x_n23 : Int)))) 18 rfl rfl hb29) rfl (by exact ⟨⟨trivial, depT (by kernel_rfl)⟩, depT (by kernel_rfl)⟩) ?_
      refine WQ_skip rfl (gdN (b := (decide (x27 = (x_n23 : Int)))) 18 rfl rfl hb29) rfl ?_
      refine WQ_val rfl gd0 (o_pickF (v := .bool false) rfl hb29 rfl) rfl ?_
      refine WQ_val rfl gd0 (o_assign (v := .bool false) rfl) rfl ?_
      refine WQ_nil ?_
      refine nrm ?_
      refine WC_ret ?_
      refine rtE ?_
      exact gv1 rfl rfl h
  · rw [if_neg (neT hb21)] at h
    refine WQ_skip rfl (gdN (b := x20) 10 rfl rfl hb21) rfl ?_
    refine WQ_skip rfl (gdN (b := x20) 10 rfl rfl hb21) rfl ?_
    refine WQ_skip rfl (gdN (b := x20) 10 rfl rfl hb21) rfl ?_
    refine WQ_skip rfl (gdN (b := x20) 10 rfl rfl hb21) rfl ?_
    refine WQ_passAct rfl (gdN (b := x20) 10 rfl rfl hb21) rfl (by exact ⟨trivial, depT (by kernel_rfl)⟩) ?_
    refine WQ_skip rfl (gdN (b := x20) 10 rfl rfl hb21) rfl ?_
    refine WQ_val rfl gd0 (o_pickF (v := .bool false) rfl hb21 rfl) rfl ?_
    refine WQ_val rfl gd0 (o_move (v := .bool false) rfl) rfl ?_
    refine WQ_skip rfl (gdN (b := false) 18 rfl rfl rfl) rfl ?_
    refine WQ_skip rfl (gdN (b := false) 18 rfl rfl rfl) rfl ?_
    refine WQ_skip rfl (gdN (b := false) 18 rfl rfl rfl) rfl ?_
    refine WQ_passAct rfl (gdN (b := false) 18 rfl rfl rfl) rfl (by exact ⟨trivial, depT (by kernel_rfl)⟩) ?_
    refine WQ_skip rfl (gdN (b := false) 18 rfl rfl rfl) rfl ?_
    refine WQ_val rfl gd0 (o_pickF (v := .bool false) rfl rfl rfl) rfl ?_
    refine WQ_val rfl gd0 (o_assign (v := .bool false) rfl) rfl ?_
    refine WQ_nil ?_
    refine nrm ?_
    refine WC_ret ?_
    refine rtE ?_
    exact gv1 rfl rfl h

def F15_b1 (a_n2 : Nat) (a_a1 : Option Addr) (b_a4 : Option Addr) (b_n5 : Nat) (i12 : Int) (w13 : World) (k : Value → World → Prop) (nx13 : Int → World → Prop) : Prop :=
  if i12 < (a_n2 : Int) then
  ∃ (p18 : Addr), a_a1 = some p18 ∧ (0 : Int) ≤ i12 ∧ i12 < (a_n2 : Int) ∧ ∃ (x20 : Int), w13.drew.cell? (p18.add i12.toNat) = some (.int .i64 x20) ∧ ∃ (p24 : Addr), b_a4 = some p24 ∧ (0 : Int) ≤ i12 ∧ i12 < (b_n5 : Int) ∧ ∃ (x26 : Int), w13.drew.cell? (p24.add i12.toNat) = some (.int .i64 x26) ∧ if x20 ≠ x26 then
    k (.bool false) w13.drew
  else
    nx13 (IntKind.i64.wrap (i12 + 1)) w13.drew
else
  k (.bool true) w13
/-- spacecraft spacecraftref09.Same -/
def F15 (a_a1 : Option Addr) (a_n2 : Nat) (a_c3 : Nat) (b_a4 : Option Addr) (b_n5 : Nat) (b_c6 : Nat) (w7 : World) (k : Value → World → Prop) : Prop :=
  if (a_n2 : Int) ≠ (b_n5 : Int) then
  k (.bool false) w7
else
  LoopP (fun (s : Int) w' nx' => F15_b1 a_n2 a_a1 b_a4 b_n5 s w' k (fun x0 w => nx' x0 w)) 0 w7
set_option maxRecDepth 100000 in
set_option maxHeartbeats 2000000 in
theorem w15 (a_a1 : Option Addr) (a_n2 : Nat) (a_c3 : Nat) (b_a4 : Option Addr) (b_n5 : Nat) (b_c6 : Nat) (w7 : World) (k : Value → World → Prop) (h : F15 a_a1 a_n2 a_c3 b_a4 b_n5 b_c6 w7 k) : Does Try.prog 15 #[.slice a_a1 a_n2 a_c3, .slice b_a4 b_n5 b_c6] w7 k := by
  refine enter 26 Try.func15 rfl rfl rfl ?_
  intro ρ hρ
  have e0 := hρ 0 _ rfl
  have e1 := hρ 1 _ rfl
  unfold F15 at h
  refine WC_seq ?_
  refine WC_region ?_
  refine WL_val gd0 ((o_assign (v := .bool false) rfl) _) rfl ?_
  refine WL_nil ?_
  refine nrm ?_
  refine WC_seq ?_
  refine WC_seq ?_
  refine WC_region ?_
  refine WL_val gd0 ((o_move (v := .slice a_a1 a_n2 a_c3) (by exact e0)) _) rfl ?_
  refine WL_val gd0 ((o_len Try.underlying25 rfl) _) rfl ?_
  refine WL_val gd0 ((o_move (v := .slice b_a4 b_n5 b_c6) (by exact e1)) _) rfl ?_
  refine WL_val gd0 ((o_len Try.underlying25 rfl) _) rfl ?_
  refine WL_val gd0 ((o_neq rfl rfl) _) rfl ?_
  refine WL_nil ?_
  refine nrm ?_
  refine WC_cond (t := (decide ((a_n2 : Int) ≠ (b_n5 : Int)))) rfl (fun hb8 => ?_) (fun hb8 => ?_)
  · rw [if_pos (of_decide_eq_true hb8)] at h
    refine WC_seq ?_
    refine WC_region ?_
    refine WL_val gd0 ((o_assign (v := .bool false) rfl) _) rfl ?_
    refine WL_nil ?_
    refine nrm ?_
    refine WC_ret ?_
    refine rtT ?_
    refine rtE ?_
    exact gv1 rfl rfl h
  · rw [if_neg (of_decide_eq_false hb8)] at h
    refine WC_skip ?_
    refine nrm ?_
    refine WC_seq ?_
    refine WC_seq ?_
    refine WC_region ?_
    refine WL_val gd0 ((o_assign (v := .int .i64 0) rfl) _) rfl ?_
    refine WL_nil ?_
    refine nrm ?_
    refine WC_block ?_
    obtain ⟨J13, ⟨n13, h0⟩, hr13⟩ := h
    refine WC_loop (fun n ρ w' => ∃ (i12 : Int), ρ 5 = .int .i64 i12 ∧ ρ 0 = .slice a_a1 a_n2 a_c3 ∧ ρ 1 = .slice b_a4 b_n5 b_c6 ∧ J13 n i12 w') ⟨n13, _, rfl, e0, e1, h0⟩ ?_
    rintro n13 ρ w13 ⟨i12, e5_11, e0_9, e1_10, h⟩
    have h : F15_b1 a_n2 a_a1 b_a4 b_n5 i12 w13 k (fun x0 w => ∃ m, m < n13 ∧ J13 m x0 w) := hr13 n13 i12 w13 h
    unfold F15_b1 at h
    refine WC_seq ?_
    refine WC_seq ?_
    refine WC_region ?_
    refine WL_val gd0 ((o_move (v := .int .i64 i12) (by exact e5_11)) _) rfl ?_
    refine WL_val gd0 ((o_move (v := .slice a_a1 a_n2 a_c3) (by exact e0_9)) _) rfl ?_
    refine WL_val gd0 ((o_len Try.underlying25 rfl) _) rfl ?_
    refine WL_val gd0 ((o_lss rfl rfl) _) rfl ?_
    refine WL_nil ?_
    refine nrm ?_
    refine WC_cond (t := (decide (i12 < (a_n2 : Int)))) rfl (fun hb15 => ?_) (fun hb15 => ?_)
    · rw [if_pos (of_decide_eq_true hb15)] at h
      refine WC_skip ?_
      refine nrm ?_
      refine WC_seq ?_
      refine WC_block ?_
      refine WC_seq ?_
      refine WC_draws [(0, true), (1, true), (2, true), (3, true), (4, true), (5, true), (6, true), (7, true), (8, true)] Try.mixed (by kernel_rfl) ?_
      refine WQ_val rfl gd0 (o_move (v := .slice a_a1 a_n2 a_c3) (by exact e0_9)) rfl ?_
      refine WQ_val rfl gd0 (o_move (v := .int .i64 i12) (by exact e5_11)) rfl ?_
      obtain ⟨p18, q19, h⟩ := h
      obtain ⟨l16, u17, h⟩ := h
      refine WQ_val rfl gd0 (o_indexAddr1 Try.underlying25 Try.sizeOf3 (by exact (congrArg (fun z => Value.slice z a_n2 a_c3) q19)) rfl l16 u17) rfl ?_
      obtain ⟨x20, hc21, h⟩ := h
      refine WQ_look (fun w => w.cell? (p18.add i12.toNat) = some (.int .i64 x20)) rfl gd0 (fun w hc => (o_load Try.isAgg3 rfl hc)) hc21 rfl ?_
      refine WQ_val rfl gd0 (o_move (v := .slice b_a4 b_n5 b_c6) (by exact e1_10)) rfl ?_
      refine WQ_val rfl gd0 (o_move (v := .int .i64 i12) (by exact e5_11)) rfl ?_
      obtain ⟨p24, q25, h⟩ := h
      obtain ⟨l22, u23, h⟩ := h
      refine WQ_val rfl gd0 (o_indexAddr1 Try.underlying25 Try.sizeOf3 (by exact (congrArg (fun z => Value.slice z b_n5 b_c6) q25)) rfl l22 u23) rfl ?_
      obtain ⟨x26, hc27, h⟩ := h
      refine WQ_look (fun w => w.cell? (p24.add i12.toNat) = some (.int .i64 x26)) rfl gd0 (fun w hc => (o_load Try.isAgg3 rfl hc)) hc27 rfl ?_
      refine WQ_val rfl gd0 (o_neq rfl rfl) rfl ?_
      refine WQ_nil ?_
      refine nrm ?_
      refine WC_cond (t := (decide (x20 ≠ x26))) rfl (fun hb28 => ?_) (fun hb28 => ?_)
      · rw [if_pos (of_decide_eq_true hb28)] at h
        refine WC_seq ?_
        refine WC_region ?_
        refine WL_val gd0 ((o_assign (v := .bool false) rfl) _) rfl ?_
        refine WL_nil ?_
        refine nrm ?_
        refine WC_ret ?_
        refine rtB ?_
        refine rtT ?_
        refine rtT ?_
        refine rtB ?_
        refine rtT ?_
        refine rtE ?_
        exact gv1 rfl rfl h
      · rw [if_neg (of_decide_eq_false hb28)] at h
        refine WC_skip ?_
        refine nrmB ?_
        refine nrm ?_
        refine WC_region ?_
        refine WL_val gd0 ((o_move (v := .int .i64 i12) (by exact e5_11)) _) rfl ?_
        refine WL_val gd0 ((o_add rfl rfl) _) rfl ?_
        refine WL_val gd0 ((o_assign (v := .int .i64 (IntKind.i64.wrap (i12 + 1))) rfl) _) rfl ?_
        refine WL_nil ?_
        refine nrm ?_
        obtain ⟨m14, hm14, h⟩ := h
        exact ⟨m14, hm14, _, rfl, e0_9, e1_10, h⟩
    · rw [if_neg (of_decide_eq_false hb15)] at h
      refine WC_exit ?_
      refine exT ?_
      refine exT ?_
      refine exB ?_
      refine nrm ?_
      refine WC_seq ?_
      refine WC_region ?_
      refine WL_val gd0 ((o_assign (v := .bool true) rfl) _) rfl ?_
      refine WL_nil ?_
      refine nrm ?_
      refine WC_ret ?_
      refine rtE ?_
      exact gv1 rfl rfl h

/-- (*spacecraft history.History).Items -/
def F16 (h1 : Option Addr) (w2 : World) (k : Value → World → Prop) : Prop :=
  Does Try.prog 20 #[.pointer h1] w2 (fun v w3 => ∃ (x4 : Bool), v = .bool x4 ∧ if (!x4) = true then
  k (.slice none 0 0) w3
else
  ∃ (p6 : Addr), h1 = some p6 ∧ ∃ (x_a8 : Option Addr) (x_n9 x_c10 : Nat), w3.cell? (p6.add 2) = some (.slice x_a8 x_n9 x_c10) ∧ Does Try.prog 24 #[.slice x_a8 x_n9 x_c10] w3 (fun v w12 => ∃ (t_a13 : Option Addr) (t_n14 t_c15 : Nat), v = .slice t_a13 t_n14 t_c15 ∧ k (.slice t_a13 t_n14 t_c15) w12))
set_option maxRecDepth 100000 in
set_option maxHeartbeats 2000000 in
theorem w16 (h1 : Option Addr) (w2 : World) (k : Value → World → Prop) (h : F16 h1 w2 k) : Does Try.prog 16 #[.pointer h1] w2 k := by
  refine enter 11 Try.func16 rfl rfl rfl ?_
  intro ρ hρ
  have e0 := hρ 0 _ rfl
  unfold F16 at h
  refine WC_seq ?_
  refine WC_region ?_
  refine WL_val gd0 ((o_assign (v := .slice none 0 0) rfl) _) rfl ?_
  refine WL_nil ?_
  refine nrm ?_
  refine WC_seq ?_
  refine WC_seq ?_
  refine WC_region ?_
  refine WL_val gd0 ((o_move (v := .pointer h1) (by exact e0)) _) rfl ?_
  refine WL_call gd0 (o_call Try.call20 (argCons rfl argNil) _) rfl (h.mono ?_)
  rintro _ w3 ⟨x4, rfl, h⟩
  refine WL_val gd0 ((o_not rfl) _) rfl ?_
  refine WL_nil ?_
  refine nrm ?_
  refine WC_cond (t := (!x4)) rfl (fun hb5 => ?_) (fun hb5 => ?_)
  · rw [if_pos hb5] at h
    refine WC_seq ?_
    refine WC_region ?_
    refine WL_val gd0 ((o_assign (v := .slice none 0 0) rfl) _) rfl ?_
    refine WL_nil ?_
    refine nrm ?_
    refine WC_ret ?_
    refine rtT ?_
    refine rtE ?_
    exact gv1 rfl rfl h
  · rw [if_neg (neT hb5)] at h
    refine WC_skip ?_
    refine nrm ?_
    refine WC_seq ?_
    refine WC_region ?_
    refine WL_val gd0 ((o_move (v := .pointer h1) (by exact e0)) _) rfl ?_
    obtain ⟨p6, q7, h⟩ := h
    refine WL_val gd0 ((o_nilCheck (by exact (congrArg Value.pointer q7))) _) rfl ?_
    refine WL_val gd0 ((o_fieldAddr 2 Try.underlying44 rfl Try.sizeOf25 rfl rfl rfl) _) rfl ?_
    obtain ⟨x_a8, x_n9, x_c10, hc11, h⟩ := h
    refine WL_val gd0 (o_load Try.isAgg25 rfl hc11) rfl ?_
    refine WL_call gd0 (o_call Try.call24 (argCons rfl argNil) _) rfl (h.mono ?_)
    rintro _ w12 ⟨t_a13, t_n14, t_c15, rfl, h⟩
    refine WL_val gd0 ((o_assign (v := .slice t_a13 t_n14 t_c15) rfl) _) rfl ?_
    refine WL_nil ?_
    refine nrm ?_
    refine WC_ret ?_
    refine rtE ?_
    exact gv1 rfl rfl h

/-- (*spacecraft history.History).Dropped -/
def F17 (h1 : Option Addr) (w2 : World) (k : Value → World → Prop) : Prop :=
  Does Try.prog 20 #[.pointer h1] w2 (fun v w3 => ∃ (x4 : Bool), v = .bool x4 ∧ if (!x4) = true then
  k (.int .i64 0) w3
else
  ∃ (p6 : Addr), h1 = some p6 ∧ ∃ (t8 : Int), w3.cell? (p6.add 3) = some (.int .i64 t8) ∧ k (.int .i64 t8) w3)
set_option maxRecDepth 100000 in
set_option maxHeartbeats 2000000 in
theorem w17 (h1 : Option Addr) (w2 : World) (k : Value → World → Prop) (h : F17 h1 w2 k) : Does Try.prog 17 #[.pointer h1] w2 k := by
  refine enter 10 Try.func17 rfl rfl rfl ?_
  intro ρ hρ
  have e0 := hρ 0 _ rfl
  unfold F17 at h
  refine WC_seq ?_
  refine WC_region ?_
  refine WL_val gd0 ((o_assign (v := .int .i64 0) rfl) _) rfl ?_
  refine WL_nil ?_
  refine nrm ?_
  refine WC_seq ?_
  refine WC_seq ?_
  refine WC_region ?_
  refine WL_val gd0 ((o_move (v := .pointer h1) (by exact e0)) _) rfl ?_
  refine WL_call gd0 (o_call Try.call20 (argCons rfl argNil) _) rfl (h.mono ?_)
  rintro _ w3 ⟨x4, rfl, h⟩
  refine WL_val gd0 ((o_not rfl) _) rfl ?_
  refine WL_nil ?_
  refine nrm ?_
  refine WC_cond (t := (!x4)) rfl (fun hb5 => ?_) (fun hb5 => ?_)
  · rw [if_pos hb5] at h
    refine WC_seq ?_
    refine WC_region ?_
    refine WL_val gd0 ((o_assign (v := .int .i64 0) rfl) _) rfl ?_
    refine WL_nil ?_
    refine nrm ?_
    refine WC_ret ?_
    refine rtT ?_
    refine rtE ?_
    exact gv1 rfl rfl h
  · rw [if_neg (neT hb5)] at h
    refine WC_skip ?_
    refine nrm ?_
    refine WC_seq ?_
    refine WC_region ?_
    refine WL_val gd0 ((o_move (v := .pointer h1) (by exact e0)) _) rfl ?_
    obtain ⟨p6, q7, h⟩ := h
    refine WL_val gd0 ((o_nilCheck (by exact (congrArg Value.pointer q7))) _) rfl ?_
    refine WL_val gd0 ((o_fieldAddr 3 Try.underlying44 rfl Try.sizeOf3 rfl rfl rfl) _) rfl ?_
    obtain ⟨t8, hc9, h⟩ := h
    refine WL_val gd0 (o_load Try.isAgg3 rfl hc9) rfl ?_
    refine WL_val gd0 ((o_assign (v := .int .i64 t8) rfl) _) rfl ?_
    refine WL_nil ?_
    refine nrm ?_
    refine WC_ret ?_
    refine rtE ?_
    exact gv1 rfl rfl h

/-- (*spacecraft history.History).Clone -/
def F18 (h1 : Option Addr) (w2 : World) (k : Value → World → Prop) : Prop :=
  Does Try.prog 20 #[.pointer h1] w2 (fun v w3 => ∃ (x4 : Bool), v = .bool x4 ∧ if (!x4) = true then
  k (.pointer none) w3
else
  ∃ (p6 : Addr), h1 = some p6 ∧ ∃ (x8 : Bool) (x9 : Int) (x_a10 : Option Addr) (x_n11 x_c12 : Nat) (x13 : Int), Cells w3 p6 0 [.bool x8, .int .i64 x9, .slice x_a10 x_n11 x_c12, .int .i64 x13] ∧ New w3 44 [.bool false, .int .i64 0, .slice none 0 0, .int .i64 0] (fun p15 w16 => PutAll w16 p15 [.bool x8, .int .i64 x9, .slice x_a10 x_n11 x_c12, .int .i64 x13] (fun w17 => ∃ (x_a19 : Option Addr) (x_n20 x_c21 : Nat), w17.cell? (p6.add 2) = some (.slice x_a19 x_n20 x_c21) ∧ Does Try.prog 24 #[.slice x_a19 x_n20 x_c21] w17 (fun v w23 => ∃ (x_a24 : Option Addr) (x_n25 x_c26 : Nat), v = .slice x_a24 x_n25 x_c26 ∧ Put w23 (p15.add 2) (.slice x_a24 x_n25 x_c26) (fun w27 => k (.pointer (some p15)) w27)))))
set_option maxRecDepth 100000 in
set_option maxHeartbeats 2000000 in
theorem w18 (h1 : Option Addr) (w2 : World) (k : Value → World → Prop) (h : F18 h1 w2 k) : Does Try.prog 18 #[.pointer h1] w2 k := by
  refine enter 16 Try.func18 rfl rfl rfl ?_
  intro ρ hρ
  have e0 := hρ 0 _ rfl
  unfold F18 at h
  refine WC_seq ?_
  refine WC_region ?_
  refine WL_val gd0 ((o_assign (v := .pointer none) rfl) _) rfl ?_
  refine WL_nil ?_
  refine nrm ?_
  refine WC_seq ?_
  refine WC_seq ?_
  refine WC_region ?_
  refine WL_val gd0 ((o_move (v := .pointer h1) (by exact e0)) _) rfl ?_
  refine WL_call gd0 (o_call Try.call20 (argCons rfl argNil) _) rfl (h.mono ?_)
  rintro _ w3 ⟨x4, rfl, h⟩
  refine WL_val gd0 ((o_not rfl) _) rfl ?_
  refine WL_nil ?_
  refine nrm ?_
  refine WC_cond (t := (!x4)) rfl (fun hb5 => ?_) (fun hb5 => ?_)
  · rw [if_pos hb5] at h
    refine WC_seq ?_
    refine WC_region ?_
    refine WL_val gd0 ((o_assign (v := .pointer none) rfl) _) rfl ?_
    refine WL_nil ?_
    refine nrm ?_
    refine WC_ret ?_
    refine rtT ?_
    refine rtE ?_
    exact gv1 rfl rfl h
  · rw [if_neg (neT hb5)] at h
    refine WC_skip ?_
    refine nrm ?_
    refine WC_seq ?_
    refine WC_region ?_
    refine WL_val gd0 ((o_move (v := .pointer h1) (by exact e0)) _) rfl ?_
    obtain ⟨p6, q7, h⟩ := h
    refine WL_val gd0 ((o_nilCheck (by exact (congrArg Value.pointer q7))) _) rfl ?_
    obtain ⟨x8, x9, x_a10, x_n11, x_c12, x13, hc14, h⟩ := h
    refine WL_val gd0 (o_loadAgg (vs := [.bool x8, .int .i64 x9, .slice x_a10 x_n11 x_c12, .int .i64 x13]) Try.isAgg44 Try.sizeOf44 rfl hc14) rfl ?_
    have h := New.out h
    refine WL_val gd0 (o_alloc (z := .agg #[.bool false, .int .i64 0, .slice none 0 0, .int .i64 0]) (cs := [.bool false, .int .i64 0, .slice none 0 0, .int .i64 0]) Try.zeroValue44 rfl) rfl ?_
    generalize hp15 : fresh w3 = p15 at h ⊢
    generalize hw16 : push w3 44 [.bool false, .int .i64 0, .slice none 0 0, .int .i64 0] = w16 at h ⊢
    try dsimp only at h
    obtain ⟨c18, h⟩ := h
    refine WL_act gd0 (o_storeAgg (vs := [.bool x8, .int .i64 x9, .slice x_a10 x_n11 x_c12, .int .i64 x13]) Try.sizeOf44 rfl rfl rfl c18) ?_
    generalize hw17 : setAll w16 p15 0 [.bool x8, .int .i64 x9, .slice x_a10 x_n11 x_c12, .int .i64 x13] = w17 at h ⊢
    try dsimp only at h
    refine WL_nil ?_
    refine nrm ?_
    refine WC_seq ?_
    refine WC_region ?_
    refine WL_val gd0 ((o_move (v := .pointer h1) (by exact e0)) _) rfl ?_
    refine WL_val gd0 ((o_nilCheck (by exact (congrArg Value.pointer q7))) _) rfl ?_
    refine WL_val gd0 ((o_fieldAddr 2 Try.underlying44 rfl Try.sizeOf25 rfl rfl rfl) _) rfl ?_
    obtain ⟨x_a19, x_n20, x_c21, hc22, h⟩ := h
    refine WL_val gd0 (o_load Try.isAgg25 rfl hc22) rfl ?_
    refine WL_call gd0 (o_call Try.call24 (argCons rfl argNil) _) rfl (h.mono ?_)
    rintro _ w23 ⟨x_a24, x_n25, x_c26, rfl, h⟩
    refine WL_val gd0 ((o_fieldAddr 2 Try.underlying44 rfl Try.sizeOf25 rfl rfl rfl) _) rfl ?_
    obtain ⟨c28, h⟩ := h
    refine WL_act gd0 (o_store (v := .slice x_a24 x_n25 x_c26) Try.sizeOf25 rfl rfl rfl c28) ?_
    generalize hw27 : World.setCell w23 (p15.add 2) (.slice x_a24 x_n25 x_c26) = w27 at h ⊢
    try dsimp only at h
    refine WL_nil ?_
    refine nrm ?_
    refine WC_seq ?_
    refine WC_region ?_
    refine WL_val gd0 ((o_assign (v := .pointer (some p15)) rfl) _) rfl ?_
    refine WL_nil ?_
    refine nrm ?_
    refine WC_ret ?_
    refine rtE ?_
    exact gv1 rfl rfl h

/-- (*spacecraft history.History).Len -/
def F19 (h1 : Option Addr) (w2 : World) (k : Value → World → Prop) : Prop :=
  Does Try.prog 20 #[.pointer h1] w2 (fun v w3 => ∃ (x4 : Bool), v = .bool x4 ∧ if (!x4) = true then
  k (.int .i64 0) w3
else
  ∃ (p6 : Addr), h1 = some p6 ∧ ∃ (x_a8 : Option Addr) (x_n9 x_c10 : Nat), w3.cell? (p6.add 2) = some (.slice x_a8 x_n9 x_c10) ∧ k (.int .i64 (x_n9 : Int)) w3)
set_option maxRecDepth 100000 in
set_option maxHeartbeats 2000000 in
theorem w19 (h1 : Option Addr) (w2 : World) (k : Value → World → Prop) (h : F19 h1 w2 k) : Does Try.prog 19 #[.pointer h1] w2 k := by
  refine enter 11 Try.func19 rfl rfl rfl ?_
  intro ρ hρ
  have e0 := hρ 0 _ rfl
  unfold F19 at h
  refine WC_seq ?_
  refine WC_region ?_
  refine WL_val gd0 ((o_assign (v := .int .i64 0) rfl) _) rfl ?_
  refine WL_nil ?_
  refine nrm ?_
  refine WC_seq ?_
  refine WC_seq ?_
  refine WC_region ?_
  refine WL_val gd0 ((o_move (v := .pointer h1) (by exact e0)) _) rfl ?_
  refine WL_call gd0 (o_call Try.call20 (argCons rfl argNil) _) rfl (h.mono ?_)
  rintro _ w3 ⟨x4, rfl, h⟩
  refine WL_val gd0 ((o_not rfl) _) rfl ?_
  refine WL_nil ?_
  refine nrm ?_
  refine WC_cond (t := (!x4)) rfl (fun hb5 => ?_) (fun hb5 => ?_)
  · rw [if_pos hb5] at h
    refine WC_seq ?_
    refine WC_region ?_
    refine WL_val gd0 ((o_assign (v := .int .i64 0) rfl) _) rfl ?_
    refine WL_nil ?_
    refine nrm ?_
    refine WC_ret ?_
    refine rtT ?_
    refine rtE ?_
    exact gv1 rfl rfl h
  · rw [if_neg (neT hb5)] at h
    refine WC_skip ?_
    refine nrm ?_
    refine WC_seq ?_
    refine WC_region ?_
    refine WL_val gd0 ((o_move (v := .pointer h1) (by exact e0)) _) rfl ?_
    obtain ⟨p6, q7, h⟩ := h
    refine WL_val gd0 ((o_nilCheck (by exact (congrArg Value.pointer q7))) _) rfl ?_
    refine WL_val gd0 ((o_fieldAddr 2 Try.underlying44 rfl Try.sizeOf25 rfl rfl rfl) _) rfl ?_
    obtain ⟨x_a8, x_n9, x_c10, hc11, h⟩ := h
    refine WL_val gd0 (o_load Try.isAgg25 rfl hc11) rfl ?_
    refine WL_val gd0 ((o_len Try.underlying25 rfl) _) rfl ?_
    refine WL_val gd0 ((o_assign (v := .int .i64 (x_n9 : Int)) rfl) _) rfl ?_
    refine WL_nil ?_
    refine nrm ?_
    refine WC_ret ?_
    refine rtE ?_
    exact gv1 rfl rfl h

/-- (*spacecraft history.History).ok -/
def F20 (h1 : Option Addr) (w2 : World) (k : Value → World → Prop) : Prop :=
  if (!(h1).isNone) = true then
  ∃ (p4 : Addr), h1 = some p4 ∧ ∃ (x6 : Bool), w2.cell? p4 = some (.bool x6) ∧ k (.bool x6) w2
else
  k (.bool false) w2
set_option maxRecDepth 100000 in
set_option maxHeartbeats 2000000 in
theorem w20 (h1 : Option Addr) (w2 : World) (k : Value → World → Prop) (h : F20 h1 w2 k) : Does Try.prog 20 #[.pointer h1] w2 k := by
  refine enter 11 Try.func20 rfl rfl rfl ?_
  intro ρ hρ
  have e0 := hρ 0 _ rfl
  unfold F20 at h
  refine WC_seq ?_
  refine WC_region ?_
  refine WL_val gd0 ((o_assign (v := .bool false) rfl) _) rfl ?_
  refine WL_nil ?_
  refine nrm ?_
  refine WC_seq ?_
  refine WC_region ?_
  refine WL_val gd0 ((o_move (v := .pointer h1) (by exact e0)) _) rfl ?_
  refine WL_val gd0 ((o_neqPtrNil Try.underlying23 rfl rfl) _) rfl ?_
  refine WL_val gd0 ((o_move (v := .bool (!(h1).isNone)) rfl) _) rfl ?_
  refine bsplit (!(h1).isNone) (fun hb3 => ?_) (fun hb3 => ?_)
  · rw [if_pos hb3] at h
    refine WL_val (gdY (b := (!(h1).isNone)) 5 rfl rfl hb3) ((o_move (v := .pointer h1) (by exact e0)) _) rfl ?_
    obtain ⟨p4, q5, h⟩ := h
    refine WL_val (gdY (b := (!(h1).isNone)) 5 rfl rfl hb3) ((o_nilCheck (by exact (congrArg Value.pointer q5))) _) rfl ?_
    refine WL_val (gdY (b := (!(h1).isNone)) 5 rfl rfl hb3) ((o_fieldAddr0 Try.underlying44 rfl Try.sizeOf4 rfl rfl rfl) _) rfl ?_
    obtain ⟨x6, hc7, h⟩ := h
    refine WL_val (gdY (b := (!(h1).isNone)) 5 rfl rfl hb3) (o_load Try.isAgg4 rfl hc7) rfl ?_
    refine WL_val gd0 ((o_pickT (v := .bool x6) rfl hb3 rfl) _) rfl ?_
    refine WL_val gd0 ((o_assign (v := .bool x6) rfl) _) rfl ?_
    refine WL_nil ?_
    refine nrm ?_
    refine WC_ret ?_
    refine rtE ?_
    exact gv1 rfl rfl h
  · rw [if_neg (neT hb3)] at h
    refine WL_skip (gdN (b := (!(h1).isNone)) 5 rfl rfl hb3) rfl ?_
    refine WL_skip (gdN (b := (!(h1).isNone)) 5 rfl rfl hb3) rfl ?_
    refine WL_skip (gdN (b := (!(h1).isNone)) 5 rfl rfl hb3) rfl ?_
    refine WL_skip (gdN (b := (!(h1).isNone)) 5 rfl rfl hb3) rfl ?_
    refine WL_val gd0 ((o_pickF (v := .bool false) rfl hb3 rfl) _) rfl ?_
    refine WL_val gd0 ((o_assign (v := .bool false) rfl) _) rfl ?_
    refine WL_nil ?_
    refine nrm ?_
    refine WC_ret ?_
    refine rtE ?_
    exact gv1 rfl rfl h

/-- slices.Contains   int,int  -/
def F21 (s_a1 : Option Addr) (s_n2 : Nat) (s_c3 : Nat) (v4 : Int) (w5 : World) (k : Value → World → Prop) : Prop :=
  Does Try.prog 25 #[.slice s_a1 s_n2 s_c3, .int .i64 v4] w5 (fun v w6 => ∃ (x7 : Int), v = .int .i64 x7 ∧ k (.bool (decide (0 ≤ x7))) w6)
set_option maxRecDepth 100000 in
set_option maxHeartbeats 2000000 in
theorem w21 (s_a1 : Option Addr) (s_n2 : Nat) (s_c3 : Nat) (v4 : Int) (w5 : World) (k : Value → World → Prop) (h : F21 s_a1 s_n2 s_c3 v4 w5 k) : Does Try.prog 21 #[.slice s_a1 s_n2 s_c3, .int .i64 v4] w5 k := by
  refine enter 9 Try.func21 rfl rfl rfl ?_
  intro ρ hρ
  have e0 := hρ 0 _ rfl
  have e1 := hρ 1 _ rfl
  unfold F21 at h
  refine WC_seq ?_
  refine WC_region ?_
  refine WL_val gd0 ((o_assign (v := .bool false) rfl) _) rfl ?_
  refine WL_nil ?_
  refine nrm ?_
  refine WC_seq ?_
  refine WC_region ?_
  refine WL_val gd0 ((o_move (v := .slice s_a1 s_n2 s_c3) (by exact e0)) _) rfl ?_
  refine WL_val gd0 ((o_move (v := .int .i64 v4) (by exact e1)) _) rfl ?_
  refine WL_call gd0 (o_call Try.call25 (argCons rfl (argCons rfl argNil)) _) rfl (h.mono ?_)
  rintro _ w6 ⟨x7, rfl, h⟩
  refine WL_val gd0 ((o_geq rfl rfl) _) rfl ?_
  refine WL_val gd0 ((o_assign (v := .bool (decide (0 ≤ x7))) rfl) _) rfl ?_
  refine WL_nil ?_
  refine nrm ?_
  refine WC_ret ?_
  refine rtE ?_
  exact gv1 rfl rfl h

/-- slices.Delete   int,int  -/
def F22 (s_a1 : Option Addr) (s_n2 : Nat) (s_c3 : Nat) (i4 : Int) (j5 : Int) (w6 : World) (k : Value → World → Prop) : Prop :=
  (0 : Int) ≤ i4 ∧ i4 ≤ (j5 : Int) ∧ j5 ≤ ((s_n2 : Int) : Int) ∧ (s_n2 : Int) ≤ (s_c3 : Int) ∧ if i4 = j5 then
  k (.slice s_a1 s_n2 s_c3) w6
else
  (0 : Int) ≤ i4 ∧ i4 ≤ (s_c3 : Int) ∧ (0 : Int) ≤ j5 ∧ j5 ≤ (s_n2 : Int) ∧ ∃ (b_a16 : Option Addr) (b_n17 b_c18 : Nat) (w19 : World), (Builtin.append_ #[25, 25] 25 #[.slice s_a1 i4.toNat s_c3, .slice (cutA s_a1 s_c3 j5.toNat 1) (s_n2 - j5.toNat) (s_c3 - j5.toNat)]).run Try.prog w6.drew = .ok (.slice b_a16 b_n17 b_c18) w19 ∧ (0 : Int) ≤ (b_n17 : Int) ∧ (b_n17 : Int) ≤ ((s_n2 : Int) : Int) ∧ (s_n2 : Int) ≤ (b_c18 : Int) ∧ ∃ (w24 : World), (Builtin.clear_ #[25] 0 #[.slice (cutA b_a16 b_c18 ((b_n17 : Int).toNat) 1) ((s_n2 : Int).toNat - (b_n17 : Int).toNat) (b_c18 - (b_n17 : Int).toNat)]).run Try.prog w19 = .ok (.tuple #[]) w24 ∧ k (.slice b_a16 b_n17 b_c18) w24
set_option maxRecDepth 100000 in
set_option maxHeartbeats 2000000 in
theorem w22 (s_a1 : Option Addr) (s_n2 : Nat) (s_c3 : Nat) (i4 : Int) (j5 : Int) (w6 : World) (k : Value → World → Prop) (h : F22 s_a1 s_n2 s_c3 i4 j5 w6 k) : Does Try.prog 22 #[.slice s_a1 s_n2 s_c3, .int .i64 i4, .int .i64 j5] w6 k := by
  refine enter 33 Try.func22 rfl rfl rfl ?_
  intro ρ hρ
  have e0 := hρ 0 _ rfl
  have e1 := hρ 1 _ rfl
  have e2 := hρ 2 _ rfl
  unfold F22 at h
  refine WC_seq ?_
  refine WC_region ?_
  refine WL_val gd0 ((o_assign (v := .slice none 0 0) rfl) _) rfl ?_
  refine WL_nil ?_
  refine nrm ?_
  refine WC_seq ?_
  refine WC_region ?_
  refine WL_val gd0 ((o_move (v := .slice s_a1 s_n2 s_c3) (by exact e0)) _) rfl ?_
  refine WL_val gd0 ((o_move (v := .int .i64 i4) (by exact e1)) _) rfl ?_
  refine WL_val gd0 ((o_move (v := .int .i64 j5) (by exact e2)) _) rfl ?_
  refine WL_val gd0 ((o_move (v := .slice s_a1 s_n2 s_c3) (by exact e0)) _) rfl ?_
  refine WL_val gd0 ((o_len Try.underlying25 rfl) _) rfl ?_
  obtain ⟨c7, c8, c9, c10, h⟩ := h
  refine WL_val gd0 ((o_sliceLHM Try.underlying25 Try.sizeOf3 rfl rfl rfl rfl c7 c8 c9 c10) _) rfl ?_
  refine WL_nil ?_
  refine nrm ?_
  refine WC_seq ?_
  refine WC_seq ?_
  refine WC_region ?_
  refine WL_val gd0 ((o_move (v := .int .i64 i4) (by exact e1)) _) rfl ?_
  refine WL_val gd0 ((o_move (v := .int .i64 j5) (by exact e2)) _) rfl ?_
  refine WL_val gd0 ((o_eql rfl rfl) _) rfl ?_
  refine WL_nil ?_
  refine nrm ?_
  refine WC_cond (t := (decide (i4 = j5))) rfl (fun hb11 => ?_) (fun hb11 => ?_)
  · rw [if_pos (of_decide_eq_true hb11)] at h
    refine WC_seq ?_
    refine WC_region ?_
    refine WL_val gd0 ((o_move (v := .slice s_a1 s_n2 s_c3) (by exact e0)) _) rfl ?_
    refine WL_val gd0 ((o_assign (v := .slice s_a1 s_n2 s_c3) rfl) _) rfl ?_
    refine WL_nil ?_
    refine nrm ?_
    refine WC_ret ?_
    refine rtT ?_
    refine rtE ?_
    exact gv1 rfl rfl h
  · rw [if_neg (of_decide_eq_false hb11)] at h
    refine WC_skip ?_
    refine nrm ?_
    refine WC_seq ?_
    refine WC_region ?_
    refine WL_val gd0 ((o_move (v := .slice s_a1 s_n2 s_c3) (by exact e0)) _) rfl ?_
    refine WL_val gd0 ((o_len Try.underlying25 rfl) _) rfl ?_
    refine WL_val gd0 ((o_assign (v := .int .i64 (s_n2 : Int)) rfl) _) rfl ?_
    refine WL_nil ?_
    refine nrm ?_
    refine WC_seq ?_
    refine WC_draws [(0, true), (1, true), (2, true), (3, true), (4, true), (5, true), (6, false), (7, true)] Try.mixed (by kernel_rfl) ?_
    refine WQ_val rfl gd0 (o_move (v := .slice s_a1 s_n2 s_c3) (by exact e0)) rfl ?_
    refine WQ_val rfl gd0 (o_move (v := .int .i64 i4) (by exact e1)) rfl ?_
    obtain ⟨c12, c13, h⟩ := h
    refine WQ_val rfl gd0 (o_sliceH Try.underlying25 Try.sizeOf3 rfl rfl c12 c13) rfl ?_
    refine WQ_val rfl gd0 (o_move (v := .slice s_a1 s_n2 s_c3) (by exact e0)) rfl ?_
    refine WQ_val rfl gd0 (o_move (v := .int .i64 j5) (by exact e2)) rfl ?_
    obtain ⟨c14, c15, h⟩ := h
    refine WQ_val rfl gd0 (o_sliceL Try.underlying25 Try.sizeOf3 rfl rfl c14 c15) rfl ?_
    obtain ⟨b_a16, b_n17, b_c18, w19, r20, h⟩ := h
    refine WQ_act rfl gd0 (o_append rfl rfl r20) rfl (by exact trivial) ?_
    refine WQ_val rfl gd0 (o_assign (v := .slice b_a16 b_n17 b_c18) rfl) rfl ?_
    refine WQ_nil ?_
    refine nrm ?_
    refine WC_seq ?_
    refine WC_region ?_
    refine WL_val gd0 ((o_move (v := .slice b_a16 b_n17 b_c18) rfl) _) rfl ?_
    refine WL_val gd0 ((o_move (v := .slice b_a16 b_n17 b_c18) rfl) _) rfl ?_
    refine WL_val gd0 ((o_len Try.underlying25 rfl) _) rfl ?_
    refine WL_val gd0 ((o_move (v := .int .i64 (s_n2 : Int)) rfl) _) rfl ?_
    obtain ⟨c21, c22, c23, h⟩ := h
    refine WL_val gd0 ((o_sliceLH Try.underlying25 Try.sizeOf3 rfl rfl rfl c21 c22 c23) _) rfl ?_
    obtain ⟨w24, r25, h⟩ := h
    refine WL_valNone gd0 (o_clear rfl r25) ?_
    refine WL_nil ?_
    refine nrm ?_
    refine WC_seq ?_
    refine WC_region ?_
    refine WL_val gd0 ((o_move (v := .slice b_a16 b_n17 b_c18) rfl) _) rfl ?_
    refine WL_val gd0 ((o_assign (v := .slice b_a16 b_n17 b_c18) rfl) _) rfl ?_
    refine WL_nil ?_
    refine nrm ?_
    refine WC_ret ?_
    refine rtE ?_
    exact gv1 rfl rfl h

def F23_b1 (l_n2 : Nat) (l_a1 : Option Addr) (out_a7 : Option Addr) (out_n8 : Nat) (out_c9 : Nat) (i11 : Int) (w12 : World) (nx12 : Option Addr → Nat → Nat → Int → World → Prop) (k : Value → World → Prop) : Prop :=
  if i11 < (l_n2 : Int) then
  ∃ (p17 : Addr), l_a1 = some p17 ∧ (0 : Int) ≤ i11 ∧ i11 < (l_n2 : Int) ∧ ∃ (x19 : Int), w12.cell? (p17.add i11.toNat) = some (.int .i64 x19) ∧ New w12 3 [.int .i64 x19] (fun p21 w22 => ∃ (b_a23 : Option Addr) (b_n24 b_c25 : Nat) (w26 : World), (Builtin.append_ #[25, 25] 25 #[.slice out_a7 out_n8 out_c9, .slice (some p21) 1 1]).run Try.prog w22 = .ok (.slice b_a23 b_n24 b_c25) w26 ∧ nx12 b_a23 b_n24 b_c25 (IntKind.i64.wrap (i11 + 1)) w26)
else
  k (.slice out_a7 out_n8 out_c9) w12
/-- spacecraft spacecraftref09.Copy -/
def F23 (l_a1 : Option Addr) (l_n2 : Nat) (l_c3 : Nat) (w4 : World) (k : Value → World → Prop) : Prop :=
  LoopP (fun (s : Option Addr × Nat × Nat × Int) w' nx' => F23_b1 l_n2 l_a1 (s.1) (s.2.1) (s.2.2.1) (s.2.2.2) w' (fun x0 x1 x2 x3 w => nx' (x0, x1, x2, x3) w) k) (none, 0, 0, 0) w4
set_option maxRecDepth 100000 in
set_option maxHeartbeats 2000000 in
theorem w23 (l_a1 : Option Addr) (l_n2 : Nat) (l_c3 : Nat) (w4 : World) (k : Value → World → Prop) (h : F23 l_a1 l_n2 l_c3 w4 k) : Does Try.prog 23 #[.slice l_a1 l_n2 l_c3] w4 k := by
  refine enter 19 Try.func23 rfl rfl rfl ?_
  intro ρ hρ
  have e0 := hρ 0 _ rfl
  unfold F23 at h
  refine WC_seq ?_
  refine WC_region ?_
  refine WL_val gd0 ((o_assign (v := .slice none 0 0) rfl) _) rfl ?_
  refine WL_nil ?_
  refine nrm ?_
  refine WC_seq ?_
  refine WC_region ?_
  refine WL_val gd0 ((o_assign (v := .slice none 0 0) rfl) _) rfl ?_
  refine WL_nil ?_
  refine nrm ?_
  refine WC_seq ?_
  refine WC_seq ?_
  refine WC_region ?_
  refine WL_val gd0 ((o_assign (v := .int .i64 0) rfl) _) rfl ?_
  refine WL_nil ?_
  refine nrm ?_
  refine WC_block ?_
  obtain ⟨J12, ⟨n12, h0⟩, hr12⟩ := h
  refine WC_loop (fun n ρ w' => ∃ (out_a7 : Option Addr) (out_n8 out_c9 : Nat) (i11 : Int), ρ 3 = .slice out_a7 out_n8 out_c9 ∧ ρ 4 = .int .i64 i11 ∧ ρ 0 = .slice l_a1 l_n2 l_c3 ∧ J12 n (out_a7, out_n8, out_c9, i11) w') ⟨n12, _, _, _, _, rfl, rfl, e0, h0⟩ ?_
  rintro n12 ρ w12 ⟨out_a7, out_n8, out_c9, i11, e3_6, e4_10, e0_5, h⟩
  have h : F23_b1 l_n2 l_a1 out_a7 out_n8 out_c9 i11 w12 (fun x0 x1 x2 x3 w => ∃ m, m < n12 ∧ J12 m (x0, x1, x2, x3) w) k := hr12 n12 (out_a7, out_n8, out_c9, i11) w12 h
  unfold F23_b1 at h
  refine WC_seq ?_
  refine WC_seq ?_
  refine WC_region ?_
  refine WL_val gd0 ((o_move (v := .int .i64 i11) (by exact e4_10)) _) rfl ?_
  refine WL_val gd0 ((o_move (v := .slice l_a1 l_n2 l_c3) (by exact e0_5)) _) rfl ?_
  refine WL_val gd0 ((o_len Try.underlying25 rfl) _) rfl ?_
  refine WL_val gd0 ((o_lss rfl rfl) _) rfl ?_
  refine WL_nil ?_
  refine nrm ?_
  refine WC_cond (t := (decide (i11 < (l_n2 : Int)))) rfl (fun hb14 => ?_) (fun hb14 => ?_)
  · rw [if_pos (of_decide_eq_true hb14)] at h
    refine WC_skip ?_
    refine nrm ?_
    refine WC_seq ?_
    refine WC_block ?_
    refine WC_region ?_
    refine WL_val gd0 ((o_move (v := .slice out_a7 out_n8 out_c9) (by exact e3_6)) _) rfl ?_
    refine WL_val gd0 ((o_move (v := .slice l_a1 l_n2 l_c3) (by exact e0_5)) _) rfl ?_
    refine WL_val gd0 ((o_move (v := .int .i64 i11) (by exact e4_10)) _) rfl ?_
    obtain ⟨p17, q18, h⟩ := h
    obtain ⟨l15, u16, h⟩ := h
    refine WL_val gd0 ((o_indexAddr1 Try.underlying25 Try.sizeOf3 (by exact (congrArg (fun z => Value.slice z l_n2 l_c3) q18)) rfl l15 u16) _) rfl ?_
    obtain ⟨x19, hc20, h⟩ := h
    refine WL_val gd0 (o_load Try.isAgg3 rfl hc20) rfl ?_
    have h := New.out h
    refine WL_val gd0 (o_buildSlice (e := 3) (ps := [(0, .int .i64 x19)]) (cs := [.int .i64 x19]) (partCons rfl partNil) (fun w => by kernel_rfl)) rfl ?_
    generalize hp21 : fresh w12 = p21 at h ⊢
    generalize hw22 : push w12 3 [.int .i64 x19] = w22 at h ⊢
    try dsimp only at h
    obtain ⟨b_a23, b_n24, b_c25, w26, r27, h⟩ := h
    refine WL_val gd0 (o_append rfl rfl r27) rfl ?_
    refine WL_val gd0 ((o_assign (v := .slice b_a23 b_n24 b_c25) rfl) _) rfl ?_
    refine WL_nil ?_
    refine nrmB ?_
    refine nrm ?_
    refine WC_region ?_
    refine WL_val gd0 ((o_move (v := .int .i64 i11) (by exact e4_10)) _) rfl ?_
    refine WL_val gd0 ((o_add rfl rfl) _) rfl ?_
    refine WL_val gd0 ((o_assign (v := .int .i64 (IntKind.i64.wrap (i11 + 1))) rfl) _) rfl ?_
    refine WL_nil ?_
    refine nrm ?_
    obtain ⟨m13, hm13, h⟩ := h
    exact ⟨m13, hm13, _, _, _, _, rfl, rfl, e0_5, h⟩
  · rw [if_neg (of_decide_eq_false hb14)] at h
    refine WC_exit ?_
    refine exT ?_
    refine exT ?_
    refine exB ?_
    refine nrm ?_
    refine WC_seq ?_
    refine WC_region ?_
    refine WL_val gd0 ((o_move (v := .slice out_a7 out_n8 out_c9) (by exact e3_6)) _) rfl ?_
    refine WL_val gd0 ((o_assign (v := .slice out_a7 out_n8 out_c9) rfl) _) rfl ?_
    refine WL_nil ?_
    refine nrm ?_
    refine WC_ret ?_
    refine rtE ?_
    exact gv1 rfl rfl h

/-- slices.Clone   int,int  -/
def F24 (s_a1 : Option Addr) (s_n2 : Nat) (s_c3 : Nat) (w4 : World) (k : Value → World → Prop) : Prop :=
  if (s_a1).isNone = true then
  k (.slice none 0 0) w4
else
  New w4 3 [] (fun p6 w7 => ∃ (b_a8 : Option Addr) (b_n9 b_c10 : Nat) (w11 : World), (Builtin.append_ #[25, 25] 25 #[.slice (some p6) 0 0, .slice s_a1 s_n2 s_c3]).run Try.prog w7 = .ok (.slice b_a8 b_n9 b_c10) w11 ∧ k (.slice b_a8 b_n9 b_c10) w11)
set_option maxRecDepth 100000 in
set_option maxHeartbeats 2000000 in
theorem w24 (s_a1 : Option Addr) (s_n2 : Nat) (s_c3 : Nat) (w4 : World) (k : Value → World → Prop) (h : F24 s_a1 s_n2 s_c3 w4 k) : Does Try.prog 24 #[.slice s_a1 s_n2 s_c3] w4 k := by
  refine enter 8 Try.func24 rfl rfl rfl ?_
  intro ρ hρ
  have e0 := hρ 0 _ rfl
  unfold F24 at h
  refine WC_seq ?_
  refine WC_region ?_
  refine WL_val gd0 ((o_assign (v := .slice none 0 0) rfl) _) rfl ?_
  refine WL_nil ?_
  refine nrm ?_
  refine WC_seq ?_
  refine WC_seq ?_
  refine WC_region ?_
  refine WL_val gd0 ((o_move (v := .slice s_a1 s_n2 s_c3) (by exact e0)) _) rfl ?_
  refine WL_val gd0 ((o_eqlSliceNil Try.underlying25 rfl rfl) _) rfl ?_
  refine WL_nil ?_
  refine nrm ?_
  refine WC_cond (t := ((s_a1).isNone)) rfl (fun hb5 => ?_) (fun hb5 => ?_)
  · rw [if_pos hb5] at h
    refine WC_seq ?_
    refine WC_region ?_
    refine WL_val gd0 ((o_assign (v := .slice none 0 0) rfl) _) rfl ?_
    refine WL_nil ?_
    refine nrm ?_
    refine WC_ret ?_
    refine rtT ?_
    refine rtE ?_
    exact gv1 rfl rfl h
  · rw [if_neg (neT hb5)] at h
    refine WC_skip ?_
    refine nrm ?_
    refine WC_seq ?_
    refine WC_region ?_
    have h := New.out h
    refine WL_val gd0 (o_buildSlice (e := 3) (ps := []) (cs := []) partNil (fun w => by kernel_rfl)) rfl ?_
    generalize hp6 : fresh w4 = p6 at h ⊢
    generalize hw7 : push w4 3 [] = w7 at h ⊢
    try dsimp only at h
    refine WL_val gd0 ((o_move (v := .slice s_a1 s_n2 s_c3) (by exact e0)) _) rfl ?_
    obtain ⟨b_a8, b_n9, b_c10, w11, r12, h⟩ := h
    refine WL_val gd0 (o_append rfl rfl r12) rfl ?_
    refine WL_val gd0 ((o_assign (v := .slice b_a8 b_n9 b_c10) rfl) _) rfl ?_
    refine WL_nil ?_
    refine nrm ?_
    refine WC_ret ?_
    refine rtE ?_
    exact gv1 rfl rfl h

def F25_b1 (s_n2 : Nat) (s_a1 : Option Addr) (v4 : Int) (t10 : Int) (w11 : World) (k : Value → World → Prop) (nx11 : Int → World → Prop) : Prop :=
  if t10 < (s_n2 : Int) then
  ∃ (p16 : Addr), s_a1 = some p16 ∧ (0 : Int) ≤ t10 ∧ t10 < (s_n2 : Int) ∧ ∃ (x18 : Int), w11.cell? (p16.add t10.toNat) = some (.int .i64 x18) ∧ if v4 = x18 then
    k (.int .i64 t10) w11
  else
    nx11 (IntKind.i64.wrap (t10 + 1)) w11
else
  k (.int .i64 (-1)) w11
/-- slices.Index   int,int  -/
def F25 (s_a1 : Option Addr) (s_n2 : Nat) (s_c3 : Nat) (v4 : Int) (w5 : World) (k : Value → World → Prop) : Prop :=
  LoopP (fun (s : Int) w' nx' => F25_b1 s_n2 s_a1 v4 s w' k (fun x0 w => nx' x0 w)) 0 w5
set_option maxRecDepth 100000 in
set_option maxHeartbeats 2000000 in
theorem w25 (s_a1 : Option Addr) (s_n2 : Nat) (s_c3 : Nat) (v4 : Int) (w5 : World) (k : Value → World → Prop) (h : F25 s_a1 s_n2 s_c3 v4 w5 k) : Does Try.prog 25 #[.slice s_a1 s_n2 s_c3, .int .i64 v4] w5 k := by
  refine enter 19 Try.func25 rfl rfl rfl ?_
  intro ρ hρ
  have e0 := hρ 0 _ rfl
  have e1 := hρ 1 _ rfl
  unfold F25 at h
  refine WC_seq ?_
  refine WC_region ?_
  refine WL_val gd0 ((o_assign (v := .int .i64 0) rfl) _) rfl ?_
  refine WL_nil ?_
  refine nrm ?_
  refine WC_seq ?_
  refine WC_seq ?_
  refine WC_region ?_
  refine WL_val gd0 ((o_move (v := .slice s_a1 s_n2 s_c3) (by exact e0)) _) rfl ?_
  refine WL_val gd0 ((o_len Try.underlying25 rfl) _) rfl ?_
  refine WL_val gd0 ((o_move (v := .int .i64 0) rfl) _) rfl ?_
  refine WL_nil ?_
  refine nrm ?_
  refine WC_block ?_
  obtain ⟨J11, ⟨n11, h0⟩, hr11⟩ := h
  refine WC_loop (fun n ρ w' => ∃ (t10 : Int), ρ 8 = .int .i64 t10 ∧ ρ 0 = .slice s_a1 s_n2 s_c3 ∧ ρ 1 = .int .i64 v4 ∧ ρ 7 = .int .i64 (s_n2 : Int) ∧ J11 n t10 w') ⟨n11, _, rfl, e0, e1, rfl, h0⟩ ?_
  rintro n11 ρ w11 ⟨t10, e8_9, e0_6, e1_7, e7_8, h⟩
  have h : F25_b1 s_n2 s_a1 v4 t10 w11 k (fun x0 w => ∃ m, m < n11 ∧ J11 m x0 w) := hr11 n11 t10 w11 h
  unfold F25_b1 at h
  refine WC_seq ?_
  refine WC_region ?_
  refine WL_val gd0 ((o_lss (by exact e8_9) (by exact e7_8)) _) rfl ?_
  refine WL_nil ?_
  refine nrm ?_
  refine WC_seq ?_
  refine WC_cond (t := (decide (t10 < (s_n2 : Int)))) rfl (fun hb13 => ?_) (fun hb13 => ?_)
  · rw [if_pos (of_decide_eq_true hb13)] at h
    refine WC_skip ?_
    refine nrm ?_
    refine WC_seq ?_
    refine WC_block ?_
    refine WC_seq ?_
    refine WC_region ?_
    refine WL_val gd0 ((o_move (v := .int .i64 t10) (by exact e8_9)) _) rfl ?_
    refine WL_val gd0 ((o_assign (v := .int .i64 t10) rfl) _) rfl ?_
    refine WL_nil ?_
    refine nrm ?_
    refine WC_seq ?_
    refine WC_region ?_
    refine WL_val gd0 ((o_move (v := .int .i64 v4) (by exact e1_7)) _) rfl ?_
    refine WL_val gd0 ((o_move (v := .slice s_a1 s_n2 s_c3) (by exact e0_6)) _) rfl ?_
    refine WL_val gd0 ((o_move (v := .int .i64 t10) rfl) _) rfl ?_
    obtain ⟨p16, q17, h⟩ := h
    obtain ⟨l14, u15, h⟩ := h
    refine WL_val gd0 ((o_indexAddr1 Try.underlying25 Try.sizeOf3 (by exact (congrArg (fun z => Value.slice z s_n2 s_c3) q17)) rfl l14 u15) _) rfl ?_
    obtain ⟨x18, hc19, h⟩ := h
    refine WL_val gd0 (o_load Try.isAgg3 rfl hc19) rfl ?_
    refine WL_val gd0 ((o_eql rfl rfl) _) rfl ?_
    refine WL_nil ?_
    refine nrm ?_
    refine WC_cond (t := (decide (v4 = x18))) rfl (fun hb20 => ?_) (fun hb20 => ?_)
    · rw [if_pos (of_decide_eq_true hb20)] at h
      refine WC_seq ?_
      refine WC_region ?_
      refine WL_val gd0 ((o_move (v := .int .i64 t10) rfl) _) rfl ?_
      refine WL_val gd0 ((o_assign (v := .int .i64 t10) rfl) _) rfl ?_
      refine WL_nil ?_
      refine nrm ?_
      refine WC_ret ?_
      refine rtB ?_
      refine rtT ?_
      refine rtT ?_
      refine rtB ?_
      refine rtT ?_
      refine rtE ?_
      exact gv1 rfl rfl h
    · rw [if_neg (of_decide_eq_false hb20)] at h
      refine WC_skip ?_
      refine nrmB ?_
      refine nrm ?_
      refine WC_region ?_
      refine WL_val gd0 ((o_add (by exact e8_9) rfl) _) rfl ?_
      refine WL_val gd0 ((o_move (v := .int .i64 (IntKind.i64.wrap (t10 + 1))) rfl) _) rfl ?_
      refine WL_nil ?_
      refine nrm ?_
      obtain ⟨m12, hm12, h⟩ := h
      exact ⟨m12, hm12, _, rfl, e0_6, e1_7, e7_8, h⟩
  · rw [if_neg (of_decide_eq_false hb13)] at h
    refine WC_exit ?_
    refine exT ?_
    refine exT ?_
    refine exB ?_
    refine nrm ?_
    refine WC_seq ?_
    refine WC_region ?_
    refine WL_val gd0 ((o_assign (v := .int .i64 (-1)) rfl) _) rfl ?_
    refine WL_nil ?_
    refine nrm ?_
    refine WC_ret ?_
    refine rtE ?_
    exact gv1 rfl rfl h


end Go.Proofs.Ythgmcidaphbibaa
