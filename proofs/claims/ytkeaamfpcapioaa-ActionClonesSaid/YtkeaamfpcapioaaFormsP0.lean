/-
  The forms of the functions, and their walks: written by a program of this claim (gen.py) off the elaborated translation.
-/
import Derived.Test.YtkeaamfpcapioaaProg
import Derived.Test.YtkeaamfpcapioaaBase
import Derived.KernelRfl
namespace Go.Proofs.Ytkeaamfpcapioaa
open Go Go.Sh Go.Proofs
set_option linter.unusedVariables false
theorem Try.mixed : Try.prog.follows .mixedOrders = true := by kernel_rfl
def F3_b2 (l_n2 : Nat) (l_a1 : Option Addr) (t6 : Option Addr) (p16 : Addr) (i22 : Int) (w23 : World) (k : Value → World → Prop) (nx23 : Int → World → Prop) : Prop :=
  if i22 < (l_n2 : Int) then
  ∃ (p28 : Addr), l_a1 = some p28 ∧ (0 : Int) ≤ i22 ∧ i22 < (l_n2 : Int) ∧ ∃ (x30 x31 : Int) (x32 : Bool) (x33 x34 x35 : Int) (x_a36 : Option Addr) (x_n37 x_c38 : Nat) (x_a39 : Option Addr) (x_n40 x_c41 : Nat), Cells w23.drew (p28.add (i22.toNat * 8)) 0 [.int .u8 x30, .int .i64 x31, .bool x32, .int .i64 x33, .int .i64 x34, .int .i64 x35, .slice x_a36 x_n37 x_c38, .slice x_a39 x_n40 x_c41] ∧ Does Try.prog 10 #[.pointer t6, .pointer (some p16), .agg #[.int .u8 x30, .int .i64 x31, .bool x32, .int .i64 x33, .int .i64 x34, .int .i64 x35, .slice x_a36 x_n37 x_c38, .slice x_a39 x_n40 x_c41]] w23.drew (fun v w43 => ∃ (x44 : Bool), v = .bool x44 ∧ if (!x44) = true then
    k (.bool false) w43
  else
    ∃ (x_a46 : Option Addr) (x_n47 x_c48 : Nat), w43.cell? p16 = some (.slice x_a46 x_n47 x_c48) ∧ Does Try.prog 12 #[.pointer t6] w43 (fun v w50 => ∃ (x_a51 : Option Addr) (x_n52 x_c53 : Nat), v = .slice x_a51 x_n52 x_c53 ∧ w50.cell? p16 = some (.slice x_a46 x_n47 x_c48) ∧ Does Try.prog 11 #[.slice x_a51 x_n52 x_c53, .slice x_a46 x_n47 x_c48] w50 (fun v w55 => ∃ (x56 : Bool), v = .bool x56 ∧ if (!x56) = true then
      k (.bool false) w55
    else
      nx23 (IntKind.i64.wrap (i22 + 1)) w55)))
else
  Does Try.prog 9 #[] w23 (fun v w58 => ∃ (t59 : Bool), v = .bool t59 ∧ k (.bool t59) w58)
def F3_j1 (t6 : Option Addr) (l_n2 : Nat) (l_a1 : Option Addr) (t10 : Bool) (w11 : World) (k : Value → World → Prop) : Prop :=
  if t10 = true then
  if (!(t6).isNone) = true then
    Does Try.prog 9 #[] w11 (fun v w14 => ∃ (x15 : Bool), v = .bool x15 ∧ k (.bool x15) w14)
  else
    k (.bool false) w11
else
  New w11 31 [.slice none 0 0, .slice none 0 0, .slice none 0 0] (fun p16 w17 => LoopP (fun (s : Int) w' nx' => F3_b2 l_n2 l_a1 t6 p16 s w' k (fun x0 w => nx' x0 w)) 0 w17)
/-- spacecraft spacecraftlaw37.ActionPlays -/
def F3 (l_a1 : Option Addr) (l_n2 : Nat) (l_c3 : Nat) (w4 : World) (k : Value → World → Prop) : Prop :=
  Does Try.prog 7 #[] w4 (fun v w5 => ∃ (t6 : Option Addr), v = .pointer t6 ∧ Does Try.prog 8 #[.slice l_a1 l_n2 l_c3] w5 (fun v w60 => ∃ (x61 : Bool), v = .bool x61 ∧ if (!x61) = true then
  F3_j1 t6 l_n2 l_a1 true w60 k
else
  F3_j1 t6 l_n2 l_a1 ((t6).isNone) w60 k))
set_option maxRecDepth 100000 in
set_option maxHeartbeats 2000000 in
theorem w3 (l_a1 : Option Addr) (l_n2 : Nat) (l_c3 : Nat) (w4 : World) (k : Value → World → Prop) (h : F3 l_a1 l_n2 l_c3 w4 k) : Does Try.prog 3 #[.slice l_a1 l_n2 l_c3] w4 k := by
  refine enter 41 Try.func3 rfl rfl rfl ?_
  intro ρ hρ
  have e0 := hρ 0 _ rfl
  unfold F3 at h
  refine WC_seq ?_
  refine WC_region ?_
  refine WL_val gd0 ((o_assign (v := .bool false) rfl) _) rfl ?_
  refine WL_nil ?_
  refine nrm ?_
  refine WC_seq ?_
  refine WC_region ?_
  refine WL_call gd0 (o_call Try.call7 argNil _) rfl (h.mono ?_)
  rintro _ w5 ⟨t6, rfl, h⟩
  refine WL_val gd0 ((o_assign (v := .pointer t6) rfl) _) rfl ?_
  refine WL_nil ?_
  refine nrm ?_
  refine WC_seq ?_
  refine WC_cut (fun ρ w' => ∃ (t10 : Bool), ρ 13 = .bool t10 ∧ ρ 0 = .slice l_a1 l_n2 l_c3 ∧ ρ 3 = .pointer t6 ∧ F3_j1 t6 l_n2 l_a1 t10 w' k) ?_ ?_
  · refine WC_region ?_
    refine WL_val gd0 ((o_move (v := .slice l_a1 l_n2 l_c3) (by exact e0)) _) rfl ?_
    refine WL_call gd0 (o_call Try.call8 (argCons rfl argNil) _) rfl (h.mono ?_)
    rintro _ w60 ⟨x61, rfl, h⟩
    refine WL_val gd0 ((o_not rfl) _) rfl ?_
    refine WL_val gd0 ((o_move (v := .bool (!x61)) rfl) _) rfl ?_
    refine bsplit (!x61) (fun hb62 => ?_) (fun hb62 => ?_)
    · rw [if_pos hb62] at h
      refine WL_skip (gdN (b := (!x61)) 10 rfl rfl hb62) rfl ?_
      refine WL_skip (gdN (b := (!x61)) 10 rfl rfl hb62) rfl ?_
      refine WL_val gd0 ((o_pickT (v := .bool true) rfl hb62 rfl) _) rfl ?_
      refine WL_nil ?_
      refine nrm ?_
      exact ⟨_, rfl, e0, rfl, h⟩
    · rw [if_neg (neT hb62)] at h
      refine WL_val (gdY (b := (!x61)) 10 rfl rfl hb62) ((o_move (v := .pointer t6) rfl) _) rfl ?_
      refine WL_val (gdY (b := (!x61)) 10 rfl rfl hb62) ((o_eqlPtrNil Try.underlying23 rfl rfl) _) rfl ?_
      refine WL_val gd0 ((o_pickF (v := .bool ((t6).isNone)) rfl hb62 rfl) _) rfl ?_
      refine WL_nil ?_
      refine nrm ?_
      exact ⟨_, rfl, e0, rfl, h⟩
  · rintro ρ w11 ⟨t10, e13_9, e0_7, e3_8, h⟩
    unfold F3_j1 at h
    refine WC_cond (t := t10) (by exact e13_9) (fun hb12 => ?_) (fun hb12 => ?_)
    · rw [if_pos hb12] at h
      refine WC_seq ?_
      refine WC_region ?_
      refine WL_val gd0 ((o_move (v := .pointer t6) (by exact e3_8)) _) rfl ?_
      refine WL_val gd0 ((o_neqPtrNil Try.underlying23 rfl rfl) _) rfl ?_
      refine WL_val gd0 ((o_move (v := .bool (!(t6).isNone)) rfl) _) rfl ?_
      refine bsplit (!(t6).isNone) (fun hb13 => ?_) (fun hb13 => ?_)
      · rw [if_pos hb13] at h
        refine WL_call (gdY (b := (!(t6).isNone)) 16 rfl rfl hb13) (o_call Try.call9 argNil _) rfl (h.mono ?_)
        rintro _ w14 ⟨x15, rfl, h⟩
        refine WL_val gd0 ((o_pickT (v := .bool x15) rfl hb13 rfl) _) rfl ?_
        refine WL_val gd0 ((o_assign (v := .bool x15) rfl) _) rfl ?_
        refine WL_nil ?_
        refine nrm ?_
        refine WC_ret ?_
        refine rtT ?_
        refine rtE ?_
        exact gv1 rfl rfl h
      · rw [if_neg (neT hb13)] at h
        refine WL_skip (gdN (b := (!(t6).isNone)) 16 rfl rfl hb13) rfl ?_
        refine WL_val gd0 ((o_pickF (v := .bool false) rfl hb13 rfl) _) rfl ?_
        refine WL_val gd0 ((o_assign (v := .bool false) rfl) _) rfl ?_
        refine WL_nil ?_
        refine nrm ?_
        refine WC_ret ?_
        refine rtT ?_
        refine rtE ?_
        exact gv1 rfl rfl h
    · rw [if_neg (neT hb12)] at h
      refine WC_skip ?_
      refine nrm ?_
      refine WC_seq ?_
      refine WC_region ?_
      have h := New.out h
      refine WL_val gd0 (o_alloc (z := .agg #[.slice none 0 0, .slice none 0 0, .slice none 0 0]) (cs := [.slice none 0 0, .slice none 0 0, .slice none 0 0]) Try.zeroValue31 rfl) rfl ?_
      generalize hp16 : fresh w11 = p16 at h ⊢
      generalize hw17 : push w11 31 [.slice none 0 0, .slice none 0 0, .slice none 0 0] = w17 at h ⊢
      try dsimp only at h
      refine WL_nil ?_
      refine nrm ?_
      refine WC_seq ?_
      refine WC_seq ?_
      refine WC_region ?_
      refine WL_val gd0 ((o_assign (v := .int .i64 0) rfl) _) rfl ?_
      refine WL_nil ?_
      refine nrm ?_
      refine WC_block ?_
      obtain ⟨J23, ⟨n23, h0⟩, hr23⟩ := h
      refine WC_loop (fun n ρ w' => ∃ (i22 : Int), ρ 5 = .int .i64 i22 ∧ ρ 0 = .slice l_a1 l_n2 l_c3 ∧ ρ 3 = .pointer t6 ∧ ρ 4 = .pointer (some p16) ∧ J23 n i22 w') ⟨n23, _, rfl, e0_7, e3_8, rfl, h0⟩ ?_
      rintro n23 ρ w23 ⟨i22, e5_21, e0_18, e3_19, e4_20, h⟩
      have h : F3_b2 l_n2 l_a1 t6 p16 i22 w23 k (fun x0 w => ∃ m, m < n23 ∧ J23 m x0 w) := hr23 n23 i22 w23 h
      unfold F3_b2 at h
      refine WC_seq ?_
      refine WC_seq ?_
      refine WC_region ?_
      refine WL_val gd0 ((o_move (v := .int .i64 i22) (by exact e5_21)) _) rfl ?_
      refine WL_val gd0 ((o_move (v := .slice l_a1 l_n2 l_c3) (by exact e0_18)) _) rfl ?_
      refine WL_val gd0 ((o_len Try.underlying22 rfl) _) rfl ?_
      refine WL_val gd0 ((o_lss rfl rfl) _) rfl ?_
      refine WL_nil ?_
      refine nrm ?_
      refine WC_cond (t := (decide (i22 < (l_n2 : Int)))) rfl (fun hb25 => ?_) (fun hb25 => ?_)
      · rw [if_pos (of_decide_eq_true hb25)] at h
        refine WC_skip ?_
        refine nrm ?_
        refine WC_seq ?_
        refine WC_block ?_
        refine WC_seq ?_
        refine WC_draws [5, 9, 12] (.look 0 (.look 1 (.look 2 (.look 3 (.look 4 (.act 5 (.look 6 (.look 7 (.look 8 (.look 10 (.look 11 (.act 9 (.act 12 (.look 13 (.look 14 .nil))))))))))))))) Try.mixed (by kernel_rfl) ?_
        refine WQ_val rfl gd0 (o_move (v := .pointer t6) (by exact e3_19)) rfl ?_
        refine WQ_val rfl gd0 (o_move (v := .slice l_a1 l_n2 l_c3) (by exact e0_18)) rfl ?_
        refine WQ_val rfl gd0 (o_move (v := .int .i64 i22) (by exact e5_21)) rfl ?_
        obtain ⟨p28, q29, h⟩ := h
        obtain ⟨l26, u27, h⟩ := h
        refine WQ_val rfl gd0 (o_indexAddr Try.underlying22 Try.sizeOf38 (by exact (congrArg (fun z => Value.slice z l_n2 l_c3) q29)) rfl l26 u27) rfl ?_
        obtain ⟨x30, x31, x32, x33, x34, x35, x_a36, x_n37, x_c38, x_a39, x_n40, x_c41, hc42, h⟩ := h
        refine WQ_look (fun w => Cells w (p28.add (i22.toNat * 8)) 0 [.int .u8 x30, .int .i64 x31, .bool x32, .int .i64 x33, .int .i64 x34, .int .i64 x35, .slice x_a36 x_n37 x_c38, .slice x_a39 x_n40 x_c41]) rfl gd0 (fun w hc => (o_loadAgg (vs := [.int .u8 x30, .int .i64 x31, .bool x32, .int .i64 x33, .int .i64 x34, .int .i64 x35, .slice x_a36 x_n37 x_c38, .slice x_a39 x_n40 x_c41]) Try.isAgg38 Try.sizeOf38 rfl hc)) hc42 rfl ?_
        refine WQ_call rfl gd0 (o_call Try.call10 (argCons rfl (argCons (by exact e4_20) (argCons rfl argNil))) _) rfl (h.mono ?_)
        rintro _ w43 ⟨x44, rfl, h⟩
        refine ⟨⟨trivial, depT (by kernel_rfl)⟩, ?_⟩
        refine WQ_val rfl gd0 (o_not rfl) rfl ?_
        refine WQ_val rfl gd0 (o_move (v := .bool (!x44)) rfl) rfl ?_
        refine bsplit (!x44) (fun hb45 => ?_) (fun hb45 => ?_)
        · rw [if_pos hb45] at h
          refine WQ_skip rfl (gdN (b := (!x44)) 32 rfl rfl hb45) rfl ?_
          refine WQ_skip rfl (gdN (b := (!x44)) 32 rfl rfl hb45) rfl ?_
          refine WQ_skip rfl (gdN (b := (!x44)) 32 rfl rfl hb45) rfl ?_
          refine WQ_passAct rfl (gdN (b := (!x44)) 32 rfl rfl hb45) rfl (by exact ⟨trivial, depT (by kernel_rfl)⟩) ?_
          refine WQ_passAct rfl (gdN (b := (!x44)) 32 rfl rfl hb45) rfl (by exact ⟨trivial, depT (by kernel_rfl)⟩) ?_
          refine WQ_skip rfl (gdN (b := (!x44)) 32 rfl rfl hb45) rfl ?_
          refine WQ_val rfl gd0 (o_pickT (v := .bool true) rfl hb45 rfl) rfl ?_
          refine WQ_nil ?_
          refine nrm ?_
          refine WC_cond (t := true) rfl (fun _ => ?_) (fun hx => by rw [(rfl : true = true)] at hx; cases hx)
          refine WC_seq ?_
          refine WC_region ?_
          refine WL_val gd0 ((o_assign (v := .bool false) rfl) _) rfl ?_
          refine WL_nil ?_
          refine nrm ?_
          refine WC_ret ?_
          refine rtB ?_
          refine rtT ?_
          refine rtT ?_
          refine rtB ?_
          refine rtT ?_
          refine rtE ?_
          exact gv1 rfl rfl h
        · rw [if_neg (neT hb45)] at h
          refine WQ_val rfl (gdY (b := (!x44)) 32 rfl rfl hb45) (o_move (v := .pointer t6) (by exact e3_19)) rfl ?_
          refine WQ_val rfl (gdY (b := (!x44)) 32 rfl rfl hb45) (o_fieldAddr0 Try.underlying31 rfl Try.sizeOf27 rfl rfl (by exact e4_20)) rfl ?_
          obtain ⟨x_a46, x_n47, x_c48, hc49, h⟩ := h
          refine WQ_look (fun w => w.cell? p16 = some (.slice x_a46 x_n47 x_c48)) rfl (gdY (b := (!x44)) 32 rfl rfl hb45) (fun w hc => (o_load Try.isAgg27 rfl hc)) hc49 rfl ?_
          refine WQ_call rfl (gdY (b := (!x44)) 32 rfl rfl hb45) (o_call Try.call12 (argCons rfl argNil) _) rfl (h.mono ?_)
          rintro _ w50 ⟨x_a51, x_n52, x_c53, rfl, hh54, h⟩
          refine ⟨⟨⟨trivial, depT (by kernel_rfl)⟩, fun _ => hh54⟩, ?_⟩
          refine WQ_call rfl (gdY (b := (!x44)) 32 rfl rfl hb45) (o_call Try.call11 (argCons rfl (argCons rfl argNil)) _) rfl (h.mono ?_)
          rintro _ w55 ⟨x56, rfl, h⟩
          refine ⟨⟨⟨trivial, depT (by kernel_rfl)⟩, depT (by kernel_rfl)⟩, ?_⟩
          refine WQ_val rfl (gdY (b := (!x44)) 32 rfl rfl hb45) (o_not rfl) rfl ?_
          refine WQ_val rfl gd0 (o_pickF (v := .bool (!x56)) rfl hb45 rfl) rfl ?_
          refine WQ_nil ?_
          refine nrm ?_
          refine WC_cond (t := (!x56)) rfl (fun hb57 => ?_) (fun hb57 => ?_)
          · rw [if_pos hb57] at h
            refine WC_seq ?_
            refine WC_region ?_
            refine WL_val gd0 ((o_assign (v := .bool false) rfl) _) rfl ?_
            refine WL_nil ?_
            refine nrm ?_
            refine WC_ret ?_
            refine rtB ?_
            refine rtT ?_
            refine rtT ?_
            refine rtB ?_
            refine rtT ?_
            refine rtE ?_
            exact gv1 rfl rfl h
          · rw [if_neg (neT hb57)] at h
            refine WC_skip ?_
            refine nrmB ?_
            refine nrm ?_
            refine WC_region ?_
            refine WL_val gd0 ((o_move (v := .int .i64 i22) (by exact e5_21)) _) rfl ?_
            refine WL_val gd0 ((o_add rfl rfl) _) rfl ?_
            refine WL_val gd0 ((o_assign (v := .int .i64 (IntKind.i64.wrap (i22 + 1))) rfl) _) rfl ?_
            refine WL_nil ?_
            refine nrm ?_
            obtain ⟨m24, hm24, h⟩ := h
            exact ⟨m24, hm24, _, rfl, e0_18, e3_19, e4_20, h⟩
      · rw [if_neg (of_decide_eq_false hb25)] at h
        refine WC_exit ?_
        refine exT ?_
        refine exT ?_
        refine exB ?_
        refine nrm ?_
        refine WC_seq ?_
        refine WC_region ?_
        refine WL_call gd0 (o_call Try.call9 argNil _) rfl (h.mono ?_)
        rintro _ w58 ⟨t59, rfl, h⟩
        refine WL_val gd0 ((o_assign (v := .bool t59) rfl) _) rfl ?_
        refine WL_nil ?_
        refine nrm ?_
        refine WC_ret ?_
        refine rtE ?_
        exact gv1 rfl rfl h

def F4_b1 (t4 : Option Addr) (id1 : Int) (i9 : Int) (w10 : World) (k : Value → World → Prop) (nx10 : Int → World → Prop) : Prop :=
  if i9 < 256 then
  Does Try.prog 13 #[.pointer t4, .int .i64 (IntKind.i64.wrap (2 * i9)), .agg #[.int .i64 0, .int .i64 i9, .int .i64 1, .slice none 0 0, .slice none 0 0]] w10 (fun v w13 => ∃ (x14 : Int), v = .int .i64 x14 ∧ if x14 ≠ 0 then
    k (.bool false) w13
  else
    nx10 (IntKind.i64.wrap (i9 + 1)) w13)
else
  New w10 36 [.int .i64 0, .int .i64 0, .int .i64 0, .slice none 0 0, .slice none 0 0] (fun p16 w17 => PutAll w17 p16 [.int .i64 0, .int .i64 1000, .int .i64 1, .slice none 0 0, .slice none 0 0] (fun w18 => ∃ (x20 x21 x22 : Int) (x_a23 : Option Addr) (x_n24 x_c25 : Nat) (x_a26 : Option Addr) (x_n27 x_c28 : Nat), Cells w18 p16 0 [.int .i64 x20, .int .i64 x21, .int .i64 x22, .slice x_a23 x_n24 x_c25, .slice x_a26 x_n27 x_c28] ∧ Does Try.prog 13 #[.pointer t4, .int .i64 (IntKind.i64.wrap ((IntKind.i64.wrap (2 * (IntKind.i64.wrap id1))) + 1)), .agg #[.int .i64 x20, .int .i64 x21, .int .i64 x22, .slice x_a23 x_n24 x_c25, .slice x_a26 x_n27 x_c28]] w18 (fun v w30 => ∃ (x31 : Int), v = .int .i64 x31 ∧ if x31 ≠ 7 then
    k (.bool false) w30
  else
    ∃ (x33 x34 x35 : Int) (x_a36 : Option Addr) (x_n37 x_c38 : Nat) (x_a39 : Option Addr) (x_n40 x_c41 : Nat), Cells w30 p16 0 [.int .i64 x33, .int .i64 x34, .int .i64 x35, .slice x_a36 x_n37 x_c38, .slice x_a39 x_n40 x_c41] ∧ Does Try.prog 13 #[.pointer t4, .int .i64 (IntKind.i64.wrap (2 * (IntKind.i64.wrap id1))), .agg #[.int .i64 x33, .int .i64 x34, .int .i64 x35, .slice x_a36 x_n37 x_c38, .slice x_a39 x_n40 x_c41]] w30 (fun v w43 => ∃ (x44 : Int), v = .int .i64 x44 ∧ if x44 ≠ 9 then
      k (.bool false) w43
    else
      Does Try.prog 14 #[.pointer t4, .int .i64 (IntKind.i64.wrap (2 * (IntKind.i64.wrap id1)))] w43 (fun v w46 => ∃ (x47 : Int), v = .int .i64 x47 ∧ if x47 ≠ 0 then
        k (.bool false) w46
      else
        ∃ (x49 x50 x51 : Int) (x_a52 : Option Addr) (x_n53 x_c54 : Nat) (x_a55 : Option Addr) (x_n56 x_c57 : Nat), Cells w46 p16 0 [.int .i64 x49, .int .i64 x50, .int .i64 x51, .slice x_a52 x_n53 x_c54, .slice x_a55 x_n56 x_c57] ∧ Does Try.prog 13 #[.pointer t4, .int .i64 (IntKind.i64.wrap ((IntKind.i64.wrap (2 * (IntKind.i64.wrap id1))) + 1)), .agg #[.int .i64 x49, .int .i64 x50, .int .i64 x51, .slice x_a52 x_n53 x_c54, .slice x_a55 x_n56 x_c57]] w46 (fun v w59 => ∃ (x60 : Int), v = .int .i64 x60 ∧ if x60 ≠ 0 then
          k (.bool false) w59
        else
          Does Try.prog 15 #[.pointer t4, .int .i64 (IntKind.i64.wrap ((IntKind.i64.wrap (2 * (IntKind.i64.wrap id1))) + 1)), .bool true] w59 (fun v w62 => ∃ (x63 : Int), v = .int .i64 x63 ∧ if x63 ≠ 0 then
            k (.bool false) w62
          else
            Does Try.prog 16 #[.pointer t4, .int .i64 (IntKind.i64.wrap ((IntKind.i64.wrap (2 * (IntKind.i64.wrap id1))) + 1))] w62 (fun v w65 => ∃ (r66 r67 r68 : Int) (r_a69 : Option Addr) (r_n70 r_c71 : Nat) (r_a72 : Option Addr) (r_n73 r_c74 : Nat) (r75 : Bool), v = .tuple #[.agg #[.int .i64 r66, .int .i64 r67, .int .i64 r68, .slice r_a69 r_n70 r_c71, .slice r_a72 r_n73 r_c74], .bool r75] ∧ New w65 36 [.int .i64 0, .int .i64 0, .int .i64 0, .slice none 0 0, .slice none 0 0] (fun p76 w77 => PutAll w77 p76 [.int .i64 r66, .int .i64 r67, .int .i64 r68, .slice r_a69 r_n70 r_c71, .slice r_a72 r_n73 r_c74] (fun w78 => Does Try.prog 16 #[.pointer t4, .int .i64 (IntKind.i64.wrap (2 * (IntKind.i64.wrap id1)))] w78 (fun v w80 => ∃ (r81 r82 r83 : Int) (r_a84 : Option Addr) (r_n85 r_c86 : Nat) (r_a87 : Option Addr) (r_n88 r_c89 : Nat) (r90 : Bool), v = .tuple #[.agg #[.int .i64 r81, .int .i64 r82, .int .i64 r83, .slice r_a84 r_n85 r_c86, .slice r_a87 r_n88 r_c89], .bool r90] ∧ New w80 36 [.int .i64 0, .int .i64 0, .int .i64 0, .slice none 0 0, .slice none 0 0] (fun p91 w92 => PutAll w92 p91 [.int .i64 r81, .int .i64 r82, .int .i64 r83, .slice r_a84 r_n85 r_c86, .slice r_a87 r_n88 r_c89] (fun w93 => if r75 = true then
              ∃ (x96 : Int), w93.cell? (p76.add 1) = some (.int .i64 x96) ∧ if x96 = 1000 then
                if (!r90) = true then
                  Does Try.prog 12 #[.pointer t4] w93 (fun v w100 => ∃ (x_a101 : Option Addr) (x_n102 x_c103 : Nat), v = .slice x_a101 x_n102 x_c103 ∧ if (x_n102 : Int) = 256 then
                    Does Try.prog 9 #[] w100 (fun v w105 => ∃ (x106 : Bool), v = .bool x106 ∧ k (.bool x106) w105)
                  else
                    k (.bool false) w100)
                else
                  k (.bool false) w93
              else
                k (.bool false) w93
            else
              k (.bool false) w93)))))))))))))
/-- spacecraft spacecraftlaw37.ActionFull -/
def F4 (id1 : Int) (w2 : World) (k : Value → World → Prop) : Prop :=
  Does Try.prog 7 #[] w2 (fun v w3 => ∃ (t4 : Option Addr), v = .pointer t4 ∧ if (t4).isNone = true then
  k (.bool false) w3
else
  LoopP (fun (s : Int) w' nx' => F4_b1 t4 id1 s w' k (fun x0 w => nx' x0 w)) 0 w3)
set_option maxRecDepth 100000 in
set_option maxHeartbeats 2000000 in
theorem w4 (id1 : Int) (w2 : World) (k : Value → World → Prop) (h : F4 id1 w2 k) : Does Try.prog 4 #[.int .u8 id1] w2 k := by
  refine enter 96 Try.func4 rfl rfl rfl ?_
  intro ρ hρ
  have e0 := hρ 0 _ rfl
  unfold F4 at h
  refine WC_seq ?_
  refine WC_region ?_
  refine WL_val gd0 ((o_assign (v := .bool false) rfl) _) rfl ?_
  refine WL_nil ?_
  refine nrm ?_
  refine WC_seq ?_
  refine WC_region ?_
  refine WL_call gd0 (o_call Try.call7 argNil _) rfl (h.mono ?_)
  rintro _ w3 ⟨t4, rfl, h⟩
  refine WL_val gd0 ((o_assign (v := .pointer t4) rfl) _) rfl ?_
  refine WL_nil ?_
  refine nrm ?_
  refine WC_seq ?_
  refine WC_seq ?_
  refine WC_region ?_
  refine WL_val gd0 ((o_move (v := .pointer t4) rfl) _) rfl ?_
  refine WL_val gd0 ((o_eqlPtrNil Try.underlying23 rfl rfl) _) rfl ?_
  refine WL_nil ?_
  refine nrm ?_
  refine WC_cond (t := ((t4).isNone)) rfl (fun hb5 => ?_) (fun hb5 => ?_)
  · rw [if_pos hb5] at h
    refine WC_seq ?_
    refine WC_region ?_
    refine WL_val gd0 ((o_assign (v := .bool false) rfl) _) rfl ?_
    refine WL_nil ?_
    refine nrm ?_
    refine WC_ret ?_
    refine rtT ?_
    refine rtE ?_
    exact gv1 rfl rfl h
  · rw [if_neg (neT hb5)] at h
    refine WC_skip ?_
    refine nrm ?_
    refine WC_seq ?_
    refine WC_seq ?_
    refine WC_region ?_
    refine WL_val gd0 ((o_assign (v := .int .i64 0) rfl) _) rfl ?_
    refine WL_nil ?_
    refine nrm ?_
    refine WC_block ?_
    obtain ⟨J10, ⟨n10, h0⟩, hr10⟩ := h
    refine WC_loop (fun n ρ w' => ∃ (i9 : Int), ρ 4 = .int .i64 i9 ∧ ρ 0 = .int .u8 id1 ∧ ρ 3 = .pointer t4 ∧ J10 n i9 w') ⟨n10, _, rfl, e0, rfl, h0⟩ ?_
    rintro n10 ρ w10 ⟨i9, e4_8, e0_6, e3_7, h⟩
    have h : F4_b1 t4 id1 i9 w10 k (fun x0 w => ∃ m, m < n10 ∧ J10 m x0 w) := hr10 n10 i9 w10 h
    unfold F4_b1 at h
    refine WC_seq ?_
    refine WC_seq ?_
    refine WC_region ?_
    refine WL_val gd0 ((o_move (v := .int .i64 i9) (by exact e4_8)) _) rfl ?_
    refine WL_val gd0 ((o_lss rfl rfl) _) rfl ?_
    refine WL_nil ?_
    refine nrm ?_
    refine WC_cond (t := (decide (i9 < 256))) rfl (fun hb12 => ?_) (fun hb12 => ?_)
    · rw [if_pos (of_decide_eq_true hb12)] at h
      refine WC_skip ?_
      refine nrm ?_
      refine WC_seq ?_
      refine WC_block ?_
      refine WC_seq ?_
      refine WC_region ?_
      refine WL_val gd0 ((o_move (v := .pointer t4) (by exact e3_7)) _) rfl ?_
      refine WL_val gd0 ((o_move (v := .int .i64 i9) (by exact e4_8)) _) rfl ?_
      refine WL_val gd0 ((o_mul rfl rfl) _) rfl ?_
      refine WL_val gd0 ((o_move (v := .int .i64 i9) (by exact e4_8)) _) rfl ?_
      refine WL_val gd0 ((o_build (ps := [(1, .int .i64 i9), (2, .int .i64 1)]) (v := .agg #[.int .i64 0, .int .i64 i9, .int .i64 1, .slice none 0 0, .slice none 0 0]) (partCons rfl (partCons rfl partNil)) (fun w => by kernel_rfl)) _) rfl ?_
      refine WL_call gd0 (o_call Try.call13 (argCons rfl (argCons rfl (argCons rfl argNil))) _) rfl (h.mono ?_)
      rintro _ w13 ⟨x14, rfl, h⟩
      refine WL_val gd0 ((o_neq rfl rfl) _) rfl ?_
      refine WL_nil ?_
      refine nrm ?_
      refine WC_cond (t := (decide (x14 ≠ 0))) rfl (fun hb15 => ?_) (fun hb15 => ?_)
      · rw [if_pos (of_decide_eq_true hb15)] at h
        refine WC_seq ?_
        refine WC_region ?_
        refine WL_val gd0 ((o_assign (v := .bool false) rfl) _) rfl ?_
        refine WL_nil ?_
        refine nrm ?_
        refine WC_ret ?_
        refine rtB ?_
        refine rtT ?_
        refine rtT ?_
        refine rtB ?_
        refine rtT ?_
        refine rtE ?_
        exact gv1 rfl rfl h
      · rw [if_neg (of_decide_eq_false hb15)] at h
        refine WC_skip ?_
        refine nrmB ?_
        refine nrm ?_
        refine WC_region ?_
        refine WL_val gd0 ((o_move (v := .int .i64 i9) (by exact e4_8)) _) rfl ?_
        refine WL_val gd0 ((o_add rfl rfl) _) rfl ?_
        refine WL_val gd0 ((o_assign (v := .int .i64 (IntKind.i64.wrap (i9 + 1))) rfl) _) rfl ?_
        refine WL_nil ?_
        refine nrm ?_
        obtain ⟨m11, hm11, h⟩ := h
        exact ⟨m11, hm11, _, rfl, e0_6, e3_7, h⟩
    · rw [if_neg (of_decide_eq_false hb12)] at h
      refine WC_exit ?_
      refine exT ?_
      refine exT ?_
      refine exB ?_
      refine nrm ?_
      refine WC_seq ?_
      refine WC_region ?_
      refine WL_val gd0 ((o_build (ps := [(1, .int .i64 1000), (2, .int .i64 1)]) (v := .agg #[.int .i64 0, .int .i64 1000, .int .i64 1, .slice none 0 0, .slice none 0 0]) (partCons rfl (partCons rfl partNil)) (fun w => by kernel_rfl)) _) rfl ?_
      have h := New.out h
      refine WL_val gd0 (o_alloc (z := .agg #[.int .i64 0, .int .i64 0, .int .i64 0, .slice none 0 0, .slice none 0 0]) (cs := [.int .i64 0, .int .i64 0, .int .i64 0, .slice none 0 0, .slice none 0 0]) Try.zeroValue36 rfl) rfl ?_
      generalize hp16 : fresh w10 = p16 at h ⊢
      generalize hw17 : push w10 36 [.int .i64 0, .int .i64 0, .int .i64 0, .slice none 0 0, .slice none 0 0] = w17 at h ⊢
      try dsimp only at h
      obtain ⟨c19, h⟩ := h
      refine WL_act gd0 (o_storeAgg (vs := [.int .i64 0, .int .i64 1000, .int .i64 1, .slice none 0 0, .slice none 0 0]) Try.sizeOf36 rfl rfl rfl c19) ?_
      generalize hw18 : setAll w17 p16 0 [.int .i64 0, .int .i64 1000, .int .i64 1, .slice none 0 0, .slice none 0 0] = w18 at h ⊢
      try dsimp only at h
      refine WL_nil ?_
      refine nrm ?_
      refine WC_seq ?_
      refine WC_region ?_
      refine WL_val gd0 ((o_move (v := .int .u8 id1) (by exact e0_6)) _) rfl ?_
      refine WL_val gd0 ((o_conv Try.underlying5 Try.underlying3 rfl) _) rfl ?_
      refine WL_val gd0 ((o_mul rfl rfl) _) rfl ?_
      refine WL_val gd0 ((o_move (v := .int .u8 id1) (by exact e0_6)) _) rfl ?_
      refine WL_val gd0 ((o_conv Try.underlying5 Try.underlying3 rfl) _) rfl ?_
      refine WL_val gd0 ((o_mul rfl rfl) _) rfl ?_
      refine WL_val gd0 ((o_add rfl rfl) _) rfl ?_
      refine WL_val gd0 ((o_assign (v := .int .i64 (IntKind.i64.wrap (2 * (IntKind.i64.wrap id1)))) rfl) _) rfl ?_
      refine WL_val gd0 ((o_assign (v := .int .i64 (IntKind.i64.wrap ((IntKind.i64.wrap (2 * (IntKind.i64.wrap id1))) + 1))) rfl) _) rfl ?_
      refine WL_nil ?_
      refine nrm ?_
      refine WC_seq ?_
      refine WC_seq ?_
      refine WC_region ?_
      refine WL_val gd0 ((o_move (v := .pointer t4) (by exact e3_7)) _) rfl ?_
      refine WL_val gd0 ((o_move (v := .int .i64 (IntKind.i64.wrap ((IntKind.i64.wrap (2 * (IntKind.i64.wrap id1))) + 1))) rfl) _) rfl ?_
      obtain ⟨x20, x21, x22, x_a23, x_n24, x_c25, x_a26, x_n27, x_c28, hc29, h⟩ := h
      refine WL_val gd0 (o_loadAgg (vs := [.int .i64 x20, .int .i64 x21, .int .i64 x22, .slice x_a23 x_n24 x_c25, .slice x_a26 x_n27 x_c28]) Try.isAgg36 Try.sizeOf36 rfl hc29) rfl ?_
      refine WL_call gd0 (o_call Try.call13 (argCons rfl (argCons rfl (argCons rfl argNil))) _) rfl (h.mono ?_)
      rintro _ w30 ⟨x31, rfl, h⟩
      refine WL_val gd0 ((o_neq rfl rfl) _) rfl ?_
      refine WL_val gd0 ((o_move (v := .bool (decide (x31 ≠ 7))) rfl) _) rfl ?_
      refine bsplit (decide (x31 ≠ 7)) (fun hb32 => ?_) (fun hb32 => ?_)
      · rw [if_pos (of_decide_eq_true hb32)] at h
        refine WL_skip (gdN (b := (decide (x31 ≠ 7))) 39 rfl rfl hb32) rfl ?_
        refine WL_skip (gdN (b := (decide (x31 ≠ 7))) 39 rfl rfl hb32) rfl ?_
        refine WL_skip (gdN (b := (decide (x31 ≠ 7))) 39 rfl rfl hb32) rfl ?_
        refine WL_skip (gdN (b := (decide (x31 ≠ 7))) 39 rfl rfl hb32) rfl ?_
        refine WL_skip (gdN (b := (decide (x31 ≠ 7))) 39 rfl rfl hb32) rfl ?_
        refine WL_val gd0 ((o_pickT (v := .bool true) rfl hb32 rfl) _) rfl ?_
        refine WL_val gd0 ((o_move (v := .bool true) rfl) _) rfl ?_
        refine WL_skip (gdN (b := true) 46 rfl rfl rfl) rfl ?_
        refine WL_skip (gdN (b := true) 46 rfl rfl rfl) rfl ?_
        refine WL_skip (gdN (b := true) 46 rfl rfl rfl) rfl ?_
        refine WL_skip (gdN (b := true) 46 rfl rfl rfl) rfl ?_
        refine WL_val gd0 ((o_pickT (v := .bool true) rfl rfl rfl) _) rfl ?_
        refine WL_val gd0 ((o_move (v := .bool true) rfl) _) rfl ?_
        refine WL_skip (gdN (b := true) 52 rfl rfl rfl) rfl ?_
        refine WL_skip (gdN (b := true) 52 rfl rfl rfl) rfl ?_
        refine WL_skip (gdN (b := true) 52 rfl rfl rfl) rfl ?_
        refine WL_skip (gdN (b := true) 52 rfl rfl rfl) rfl ?_
        refine WL_skip (gdN (b := true) 52 rfl rfl rfl) rfl ?_
        refine WL_val gd0 ((o_pickT (v := .bool true) rfl rfl rfl) _) rfl ?_
        refine WL_val gd0 ((o_move (v := .bool true) rfl) _) rfl ?_
        refine WL_skip (gdN (b := true) 59 rfl rfl rfl) rfl ?_
        refine WL_skip (gdN (b := true) 59 rfl rfl rfl) rfl ?_
        refine WL_skip (gdN (b := true) 59 rfl rfl rfl) rfl ?_
        refine WL_skip (gdN (b := true) 59 rfl rfl rfl) rfl ?_
        refine WL_val gd0 ((o_pickT (v := .bool true) rfl rfl rfl) _) rfl ?_
        refine WL_nil ?_
        refine nrm ?_
        refine WC_cond (t := true) rfl (fun _ => ?_) (fun hx => by rw [(rfl : true = true)] at hx; cases hx)
        refine WC_seq ?_
        refine WC_region ?_
        refine WL_val gd0 ((o_assign (v := .bool false) rfl) _) rfl ?_
        refine WL_nil ?_
        refine nrm ?_
        refine WC_ret ?_
        refine rtT ?_
        refine rtE ?_
        exact gv1 rfl rfl h
      · rw [if_neg (of_decide_eq_false hb32)] at h
        refine WL_val (gdY (b := (decide (x31 ≠ 7))) 39 rfl rfl hb32) ((o_move (v := .pointer t4) (by exact e3_7)) _) rfl ?_
        refine WL_val (gdY (b := (decide (x31 ≠ 7))) 39 rfl rfl hb32) ((o_move (v := .int .i64 (IntKind.i64.wrap (2 * (IntKind.i64.wrap id1)))) rfl) _) rfl ?_
        obtain ⟨x33, x34, x35, x_a36, x_n37, x_c38, x_a39, x_n40, x_c41, hc42, h⟩ := h
        refine WL_val (gdY (b := (decide (x31 ≠ 7))) 39 rfl rfl hb32) (o_loadAgg (vs := [.int .i64 x33, .int .i64 x34, .int .i64 x35, .slice x_a36 x_n37 x_c38, .slice x_a39 x_n40 x_c41]) Try.isAgg36 Try.sizeOf36 rfl hc42) rfl ?_
        refine WL_call (gdY (b := (decide (x31 ≠ 7))) 39 rfl rfl hb32) (o_call Try.call13 (argCons rfl (argCons rfl (argCons rfl argNil))) _) rfl (h.mono ?_)
        rintro _ w43 ⟨x44, rfl, h⟩
        refine WL_val (gdY (b := (decide (x31 ≠ 7))) 39 rfl rfl hb32) ((o_neq rfl rfl) _) rfl ?_
        refine WL_val gd0 ((o_pickF (v := .bool (decide (x44 ≠ 9))) rfl hb32 rfl) _) rfl ?_
        refine WL_val gd0 ((o_move (v := .bool (decide (x44 ≠ 9))) rfl) _) rfl ?_
        refine bsplit (decide (x44 ≠ 9)) (fun hb45 => ?_) (fun hb45 => ?_)
        · rw [if_pos (of_decide_eq_true hb45)] at h
          refine WL_skip (gdN (b := (decide (x44 ≠ 9))) 46 rfl rfl hb45) rfl ?_
          refine WL_skip (gdN (b := (decide (x44 ≠ 9))) 46 rfl rfl hb45) rfl ?_
          refine WL_skip (gdN (b := (decide (x44 ≠ 9))) 46 rfl rfl hb45) rfl ?_
          refine WL_skip (gdN (b := (decide (x44 ≠ 9))) 46 rfl rfl hb45) rfl ?_
          refine WL_val gd0 ((o_pickT (v := .bool true) rfl hb45 rfl) _) rfl ?_
          refine WL_val gd0 ((o_move (v := .bool true) rfl) _) rfl ?_
          refine WL_skip (gdN (b := true) 52 rfl rfl rfl) rfl ?_
          refine WL_skip (gdN (b := true) 52 rfl rfl rfl) rfl ?_
          refine WL_skip (gdN (b := true) 52 rfl rfl rfl) rfl ?_
          refine WL_skip (gdN (b := true) 52 rfl rfl rfl) rfl ?_
          refine WL_skip (gdN (b := true) 52 rfl rfl rfl) rfl ?_
          refine WL_val gd0 ((o_pickT (v := .bool true) rfl rfl rfl) _) rfl ?_
          refine WL_val gd0 ((o_move (v := .bool true) rfl) _) rfl ?_
          refine WL_skip (gdN (b := true) 59 rfl rfl rfl) rfl ?_
          refine WL_skip (gdN (b := true) 59 rfl rfl rfl) rfl ?_
          refine WL_skip (gdN (b := true) 59 rfl rfl rfl) rfl ?_
          refine WL_skip (gdN (b := true) 59 rfl rfl rfl) rfl ?_
          refine WL_val gd0 ((o_pickT (v := .bool true) rfl rfl rfl) _) rfl ?_
          refine WL_nil ?_
          refine nrm ?_
          refine WC_cond (t := true) rfl (fun _ => ?_) (fun hx => by rw [(rfl : true = true)] at hx; cases hx)
          refine WC_seq ?_
          refine WC_region ?_
          refine WL_val gd0 ((o_assign (v := .bool false) rfl) _) rfl ?_
          refine WL_nil ?_
          refine nrm ?_
          refine WC_ret ?_
          refine rtT ?_
          refine rtE ?_
          exact gv1 rfl rfl h
        · rw [if_neg (of_decide_eq_false hb45)] at h
          refine WL_val (gdY (b := (decide (x44 ≠ 9))) 46 rfl rfl hb45) ((o_move (v := .pointer t4) (by exact e3_7)) _) rfl ?_
          refine WL_val (gdY (b := (decide (x44 ≠ 9))) 46 rfl rfl hb45) ((o_move (v := .int .i64 (IntKind.i64.wrap (2 * (IntKind.i64.wrap id1)))) rfl) _) rfl ?_
          refine WL_call (gdY (b := (decide (x44 ≠ 9))) 46 rfl rfl hb45) (o_call Try.call14 (argCons rfl (argCons rfl argNil)) _) rfl (h.mono ?_)
          rintro _ w46 ⟨x47, rfl, h⟩
          refine WL_val (gdY (b := (decide (x44 ≠ 9))) 46 rfl rfl hb45) ((o_neq rfl rfl) _) rfl ?_
          refine WL_val gd0 ((o_pickF (v := .bool (decide (x47 ≠ 0))) rfl hb45 rfl) _) rfl ?_
          refine WL_val gd0 ((o_move (v := .bool (decide (x47 ≠ 0))) rfl) _) rfl ?_
          refine bsplit (decide (x47 ≠ 0)) (fun hb48 => ?_) (fun hb48 => ?_)
          · rw [if_pos (of_decide_eq_true hb48)] at h
            refine WL_skip (gdN (b := (decide (x47 ≠ 0))) 52 rfl rfl hb48) rfl ?_
            refine WL_skip (gdN (b := (decide (x47 ≠ 0))) 52 rfl rfl hb48) rfl ?_
            refine WL_skip (gdN (b := (decide (x47 ≠ 0))) 52 rfl rfl hb48) rfl ?_
            refine WL_skip (gdN (b := (decide (x47 ≠ 0))) 52 rfl rfl hb48) rfl ?_
            refine WL_skip (gdN (b := (decide (x47 ≠ 0))) 52 rfl rfl hb48) rfl ?_
            refine WL_val gd0 ((o_pickT (v := .bool true) rfl hb48 rfl) _) rfl ?_
            refine WL_val gd0 ((o_move (v := .bool true) rfl) _) rfl ?_
            refine WL_skip (gdN (b := true) 59 rfl rfl rfl) rfl ?_
            refine WL_skip (gdN (b := true) 59 rfl rfl rfl) rfl ?_
            refine WL_skip (gdN (b := true) 59 rfl rfl rfl) rfl ?_
            refine WL_skip (gdN (b := true) 59 rfl rfl rfl) rfl ?_
            refine WL_val gd0 ((o_pickT (v := .bool true) rfl rfl rfl) _) rfl ?_
            refine WL_nil ?_
            refine nrm ?_
            refine WC_cond (t := true) rfl (fun _ => ?_) (fun hx => by rw [(rfl : true = true)] at hx; cases hx)
            refine WC_seq ?_
            refine WC_region ?_
            refine WL_val gd0 ((o_assign (v := .bool false) rfl) _) rfl ?_
            refine WL_nil ?_
            refine nrm ?_
            refine WC_ret ?_
            refine rtT ?_
            refine rtE ?_
            exact gv1 rfl rfl h
          · rw [if_neg (of_decide_eq_false hb48)] at h
            refine WL_val (gdY (b := (decide (x47 ≠ 0))) 52 rfl rfl hb48) ((o_move (v := .pointer t4) (by exact e3_7)) _) rfl ?_
            refine WL_val (gdY (b := (decide (x47 ≠ 0))) 52 rfl rfl hb48) ((o_move (v := .int .i64 (IntKind.i64.wrap ((IntKind.i64.wrap (2 * (IntKind.i64.wrap id1))) + 1))) rfl) _) rfl ?_
            obtain ⟨x49, x50, x51, x_a52, x_n53, x_c54, x_a55, x_n56, x_c57, hc58, h⟩ := h
            refine WL_val (gdY (b := (decide (x47 ≠ 0))) 52 rfl rfl hb48) (o_loadAgg (vs := [.int .i64 x49, .int .i64 x50, .int .i64 x51, .slice x_a52 x_n53 x_c54, .slice x_a55 x_n56 x_c57]) Try.isAgg36 Try.sizeOf36 rfl hc58) rfl ?_
            refine WL_call (gdY (b := (decide (x47 ≠ 0))) 52 rfl rfl hb48) (o_call Try.call13 (argCons rfl (argCons rfl (argCons rfl argNil))) _) rfl (h.mono ?_)
            rintro _ w59 ⟨x60, rfl, h⟩
            refine WL_val (gdY (b := (decide (x47 ≠ 0))) 52 rfl rfl hb48) ((o_neq rfl rfl) _) rfl ?_
            refine WL_val gd0 ((o_pickF (v := .bool (decide (x60 ≠ 0))) rfl hb48 rfl) _) rfl ?_
            refine WL_val gd0 ((o_move (v := .bool (decide (x60 ≠ 0))) rfl) _) rfl ?_
            refine bsplit (decide (x60 ≠ 0)) (fun hb61 => ?_) (fun hb61 => ?_)
            · rw [if_pos (of_decide_eq_true hb61)] at h
              refine WL_skip (gdN (b := (decide (x60 ≠ 0))) 59 rfl rfl hb61) rfl ?_
              refine WL_skip (gdN (b := (decide (x60 ≠ 0))) 59 rfl rfl hb61) rfl ?_
              refine WL_skip (gdN (b := (decide (x60 ≠ 0))) 59 rfl rfl hb61) rfl ?_
              refine WL_skip (gdN (b := (decide (x60 ≠ 0))) 59 rfl rfl hb61) rfl ?_
              refine WL_val gd0 ((o_pickT (v := .bool true) rfl hb61 rfl) _) rfl ?_
              refine WL_nil ?_
              refine nrm ?_
              refine WC_cond (t := true) rfl (fun _ => ?_) (fun hx => by rw [(rfl : true = true)] at hx; cases hx)
              refine WC_seq ?_
              refine WC_region ?_
              refine WL_val gd0 ((o_assign (v := .bool false) rfl) _) rfl ?_
              refine WL_nil ?_
              refine nrm ?_
              refine WC_ret ?_
              refine rtT ?_
              refine rtE ?_
              exact gv1 rfl rfl h
            · rw [if_neg (of_decide_eq_false hb61)] at h
              refine WL_val (gdY (b := (decide (x60 ≠ 0))) 59 rfl rfl hb61) ((o_move (v := .pointer t4) (by exact e3_7)) _) rfl ?_
              refine WL_val (gdY (b := (decide (x60 ≠ 0))) 59 rfl rfl hb61) ((o_move (v := .int .i64 (IntKind.i64.wrap ((IntKind.i64.wrap (2 * (IntKind.i64.wrap id1))) + 1))) rfl) _) rfl ?_
              refine WL_call (gdY (b := (decide (x60 ≠ 0))) 59 rfl rfl hb61) (o_call Try.call15 (argCons rfl (argCons rfl (argCons rfl argNil))) _) rfl (h.mono ?_)
              rintro _ w62 ⟨x63, rfl, h⟩
              refine WL_val (gdY (b := (decide (x60 ≠ 0))) 59 rfl rfl hb61) ((o_neq rfl rfl) _) rfl ?_
              refine WL_val gd0 ((o_pickF (v := .bool (decide (x63 ≠ 0))) rfl hb61 rfl) _) rfl ?_
              refine WL_nil ?_
              refine nrm ?_
              refine WC_cond (t := (decide (x63 ≠ 0))) rfl (fun hb64 => ?_) (fun hb64 => ?_)
              · rw [if_pos (of_decide_eq_true hb64)] at h
                refine WC_seq ?_
                refine WC_region ?_
                refine WL_val gd0 ((o_assign (v := .bool false) rfl) _) rfl ?_
                refine WL_nil ?_
                refine nrm ?_
                refine WC_ret ?_
                refine rtT ?_
                refine rtE ?_
                exact gv1 rfl rfl h
              · rw [if_neg (of_decide_eq_false hb64)] at h
                refine WC_skip ?_
                refine nrm ?_
                refine WC_seq ?_
                refine WC_region ?_
                refine WL_val gd0 ((o_move (v := .pointer t4) (by exact e3_7)) _) rfl ?_
                refine WL_val gd0 ((o_move (v := .int .i64 (IntKind.i64.wrap ((IntKind.i64.wrap (2 * (IntKind.i64.wrap id1))) + 1))) rfl) _) rfl ?_
                refine WL_call gd0 (o_call Try.call16 (argCons rfl (argCons rfl argNil)) _) rfl (h.mono ?_)
                rintro _ w65 ⟨r66, r67, r68, r_a69, r_n70, r_c71, r_a72, r_n73, r_c74, r75, rfl, h⟩
                refine WL_val gd0 ((o_move (v := .tuple #[.agg #[.int .i64 r66, .int .i64 r67, .int .i64 r68, .slice r_a69 r_n70 r_c71, .slice r_a72 r_n73 r_c74], .bool r75]) rfl) _) rfl ?_
                refine WL_val gd0 ((o_extract (vs := [.agg #[.int .i64 r66, .int .i64 r67, .int .i64 r68, .slice r_a69 r_n70 r_c71, .slice r_a72 r_n73 r_c74], .bool r75]) (r := .agg #[.int .i64 r66, .int .i64 r67, .int .i64 r68, .slice r_a69 r_n70 r_c71, .slice r_a72 r_n73 r_c74]) rfl rfl) _) rfl ?_
                refine WL_val gd0 ((o_extract (vs := [.agg #[.int .i64 r66, .int .i64 r67, .int .i64 r68, .slice r_a69 r_n70 r_c71, .slice r_a72 r_n73 r_c74], .bool r75]) (r := .bool r75) rfl rfl) _) rfl ?_
                have h := New.out h
                refine WL_val gd0 (o_alloc (z := .agg #[.int .i64 0, .int .i64 0, .int .i64 0, .slice none 0 0, .slice none 0 0]) (cs := [.int .i64 0, .int .i64 0, .int .i64 0, .slice none 0 0, .slice none 0 0]) Try.zeroValue36 rfl) rfl ?_
                generalize hp76 : fresh w65 = p76 at h ⊢
                generalize hw77 : push w65 36 [.int .i64 0, .int .i64 0, .int .i64 0, .slice none 0 0, .slice none 0 0] = w77 at h ⊢
                try dsimp only at h
                obtain ⟨c79, h⟩ := h
                refine WL_act gd0 (o_storeAgg (vs := [.int .i64 r66, .int .i64 r67, .int .i64 r68, .slice r_a69 r_n70 r_c71, .slice r_a72 r_n73 r_c74]) Try.sizeOf36 rfl rfl rfl c79) ?_
                generalize hw78 : setAll w77 p76 0 [.int .i64 r66, .int .i64 r67, .int .i64 r68, .slice r_a69 r_n70 r_c71, .slice r_a72 r_n73 r_c74] = w78 at h ⊢
                try dsimp only at h
                refine WL_val gd0 ((o_assign (v := .bool r75) rfl) _) rfl ?_
                refine WL_nil ?_
                refine nrm ?_
                refine WC_seq ?_
                refine WC_region ?_
                refine WL_val gd0 ((o_move (v := .pointer t4) (by exact e3_7)) _) rfl ?_
                refine WL_val gd0 ((o_move (v := .int .i64 (IntKind.i64.wrap (2 * (IntKind.i64.wrap id1)))) rfl) _) rfl ?_
                refine WL_call gd0 (o_call Try.call16 (argCons rfl (argCons rfl argNil)) _) rfl (h.mono ?_)
                rintro _ w80 ⟨r81, r82, r83, r_a84, r_n85, r_c86, r_a87, r_n88, r_c89, r90, rfl, h⟩
                refine WL_val gd0 ((o_move (v := .tuple #[.agg #[.int .i64 r81, .int .i64 r82, .int .i64 r83, .slice r_a84 r_n85 r_c86, .slice r_a87 r_n88 r_c89], .bool r90]) rfl) _) rfl ?_
                refine WL_val gd0 ((o_extract (vs := [.agg #[.int .i64 r81, .int .i64 r82, .int .i64 r83, .slice r_a84 r_n85 r_c86, .slice r_a87 r_n88 r_c89], .bool r90]) (r := .agg #[.int .i64 r81, .int .i64 r82, .int .i64 r83, .slice r_a84 r_n85 r_c86, .slice r_a87 r_n88 r_c89]) rfl rfl) _) rfl ?_
                refine WL_val gd0 ((o_extract (vs := [.agg #[.int .i64 r81, .int .i64 r82, .int .i64 r83, .slice r_a84 r_n85 r_c86, .slice r_a87 r_n88 r_c89], .bool r90]) (r := .bool r90) rfl rfl) _) rfl ?_
                have h := New.out h
                refine WL_val gd0 (o_alloc (z := .agg #[.int .i64 0, .int .i64 0, .int .i64 0, .slice none 0 0, .slice none 0 0]) (cs := [.int .i64 0, .int .i64 0, .int .i64 0, .slice none 0 0, .slice none 0 0]) Try.zeroValue36 rfl) rfl ?_
                generalize hp91 : fresh w80 = p91 at h ⊢
                generalize hw92 : push w80 36 [.int .i64 0, .int .i64 0, .int .i64 0, .slice none 0 0, .slice none 0 0] = w92 at h ⊢
                try dsimp only at h
                obtain ⟨c94, h⟩ := h
                refine WL_act gd0 (o_storeAgg (vs := [.int .i64 r81, .int .i64 r82, .int .i64 r83, .slice r_a84 r_n85 r_c86, .slice r_a87 r_n88 r_c89]) Try.sizeOf36 rfl rfl rfl c94) ?_
                generalize hw93 : setAll w92 p91 0 [.int .i64 r81, .int .i64 r82, .int .i64 r83, .slice r_a84 r_n85 r_c86, .slice r_a87 r_n88 r_c89] = w93 at h ⊢
                try dsimp only at h
                refine WL_val gd0 ((o_assign (v := .bool r90) rfl) _) rfl ?_
                refine WL_nil ?_
                refine nrm ?_
                refine WC_seq ?_
                refine WC_region ?_
                refine WL_val gd0 ((o_move (v := .bool r75) rfl) _) rfl ?_
                refine WL_val gd0 ((o_move (v := .bool r75) rfl) _) rfl ?_
                refine bsplit r75 (fun hb95 => ?_) (fun hb95 => ?_)
                · rw [if_pos hb95] at h
                  refine WL_val (gdY (b := r75) 78 rfl rfl hb95) ((o_fieldAddr 1 Try.underlying36 rfl Try.sizeOf3 rfl rfl rfl) _) rfl ?_
                  obtain ⟨x96, hc97, h⟩ := h
                  refine WL_val (gdY (b := r75) 78 rfl rfl hb95) (o_load Try.isAgg3 rfl hc97) rfl ?_
                  refine WL_val (gdY (b := r75) 78 rfl rfl hb95) ((o_eql rfl rfl) _) rfl ?_
                  refine WL_val gd0 ((o_pickT (v := .bool (decide (x96 = 1000))) rfl hb95 rfl) _) rfl ?_
                  refine WL_val gd0 ((o_move (v := .bool (decide (x96 = 1000))) rfl) _) rfl ?_
                  refine bsplit (decide (x96 = 1000)) (fun hb98 => ?_) (fun hb98 => ?_)
                  · rw [if_pos (of_decide_eq_true hb98)] at h
                    refine WL_val (gdY (b := (decide (x96 = 1000))) 83 rfl rfl hb98) ((o_move (v := .bool r90) rfl) _) rfl ?_
                    refine WL_val (gdY (b := (decide (x96 = 1000))) 83 rfl rfl hb98) ((o_not rfl) _) rfl ?_
                    refine WL_val gd0 ((o_pickT (v := .bool (!r90)) rfl hb98 rfl) _) rfl ?_
                    refine WL_val gd0 ((o_move (v := .bool (!r90)) rfl) _) rfl ?_
                    refine bsplit (!r90) (fun hb99 => ?_) (fun hb99 => ?_)
                    · rw [if_pos hb99] at h
                      refine WL_val (gdY (b := (!r90)) 87 rfl rfl hb99) ((o_move (v := .pointer t4) (by exact e3_7)) _) rfl ?_
                      refine WL_call (gdY (b := (!r90)) 87 rfl rfl hb99) (o_call Try.call12 (argCons rfl argNil) _) rfl (h.mono ?_)
                      rintro _ w100 ⟨x_a101, x_n102, x_c103, rfl, h⟩
                      refine WL_val (gdY (b := (!r90)) 87 rfl rfl hb99) ((o_len Try.underlying27 rfl) _) rfl ?_
                      refine WL_val (gdY (b := (!r90)) 87 rfl rfl hb99) ((o_eql rfl rfl) _) rfl ?_
                      refine WL_val gd0 ((o_pickT (v := .bool (decide ((x_n102 : Int) = 256))) rfl hb99 rfl) _) rfl ?_
                      refine WL_val gd0 ((o_move (v := .bool (decide ((x_n102 : Int) = 256))) rfl) _) rfl ?_
                      refine bsplit (decide ((x_n102 : Int) = 256)) (fun hb104 => ?_) (fun hb104 => ?_)
                      · rw [if_pos (of_decide_eq_true hb104)] at h
                        refine WL_call (gdY (b := (decide ((x_n102 : Int) = 256))) 93 rfl rfl hb104) (o_call Try.call9 argNil _) rfl (h.mono ?_)
                        rintro _ w105 ⟨x106, rfl, h⟩
                        refine WL_val gd0 ((o_pickT (v := .bool x106) rfl hb104 rfl) _) rfl ?_
                        refine WL_val gd0 ((o_assign (v := .bool x106) rfl) _) rfl ?_
                        refine WL_nil ?_
                        refine nrm ?_
                        refine WC_ret ?_
                        refine rtE ?_
                        exact gv1 rfl rfl h
                      · rw [if_neg (of_decide_eq_false hb104)] at h
                        refine WL_skip (gdN (b := (decide ((x_n102 : Int) = 256))) 93 rfl rfl hb104) rfl ?_
                        refine WL_val gd0 ((o_pickF (v := .bool false) rfl hb104 rfl) _) rfl ?_
                        refine WL_val gd0 ((o_assign (v := .bool false) rfl) _) rfl ?_
                        refine WL_nil ?_
                        refine nrm ?_
                        refine WC_ret ?_
                        refine rtE ?_
                        exact gv1 rfl rfl h
                    · rw [if_neg (neT hb99)] at h
                      refine WL_skip (gdN (b := (!r90)) 87 rfl rfl hb99) rfl ?_
                      refine WL_skip (gdN (b := (!r90)) 87 rfl rfl hb99) rfl ?_
                      refine WL_skip (gdN (b := (!r90)) 87 rfl rfl hb99) rfl ?_
                      refine WL_skip (gdN (b := (!r90)) 87 rfl rfl hb99) rfl ?_
                      refine WL_val gd0 ((o_pickF (v := .bool false) rfl hb99 rfl) _) rfl ?_
                      refine WL_val gd0 ((o_move (v := .bool false) rfl) _) rfl ?_
                      refine WL_skip (gdN (b := false) 93 rfl rfl rfl) rfl ?_
                      refine WL_val gd0 ((o_pickF (v := .bool false) rfl rfl rfl) _) rfl ?_
                      refine WL_val gd0 ((o_assign (v := .bool false) rfl) _) rfl ?_
                      refine WL_nil ?_
                      refine nrm ?_
                      refine WC_ret ?_
                      refine rtE ?_
                      exact gv1 rfl rfl h
                  · rw [if_neg (of_decide_eq_false hb98)] at h
                    refine WL_skip (gdN (b := (decide (x96 = 1000))) 83 rfl rfl hb98) rfl ?_
                    refine WL_skip (gdN (b := (decide (x96 = 1000))) 83 rfl rfl hb98) rfl ?_
                    refine WL_val gd0 ((o_pickF (v := .bool false) rfl hb98 rfl) _) rfl ?_
                    refine WL_val gd0 ((o_move (v := .bool false) rfl) _) rfl ?_
                    refine WL_skip (gdN (b := false) 87 rfl rfl rfl) rfl ?_
                    refine WL_skip (gdN (b := false) 87 rfl rfl rfl) rfl ?_
                    refine WL_skip (gdN (b := false) 87 rfl rfl rfl) rfl ?_
                    refine WL_skip (gdN (b := false) 87 rfl rfl rfl) rfl ?_
                    refine WL_val gd0 ((o_pickF (v := .bool false) rfl rfl rfl) _) rfl ?_
                    refine WL_val gd0 ((o_move (v := .bool false) rfl) _) rfl ?_
                    refine WL_skip (gdN (b := false) 93 rfl rfl rfl) rfl ?_
                    refine WL_val gd0 ((o_pickF (v := .bool false) rfl rfl rfl) _) rfl ?_
                    refine WL_val gd0 ((o_assign (v := .bool false) rfl) _) rfl ?_
                    refine WL_nil ?_
                    refine nrm ?_
                    refine WC_ret ?_
                    refine rtE ?_
                    exact gv1 rfl rfl h
                · rw [if_neg (neT hb95)] at h
                  refine WL_skip (gdN (b := r75) 78 rfl rfl hb95) rfl ?_
                  refine WL_skip (gdN (b := r75) 78 rfl rfl hb95) rfl ?_
                  refine WL_skip (gdN (b := r75) 78 rfl rfl hb95) rfl ?_
                  refine WL_val gd0 ((o_pickF (v := .bool false) rfl hb95 rfl) _) rfl ?_
                  refine WL_val gd0 ((o_move (v := .bool false) rfl) _) rfl ?_
                  refine WL_skip (gdN (b := false) 83 rfl rfl rfl) rfl ?_
                  refine WL_skip (gdN (b := false) 83 rfl rfl rfl) rfl ?_
                  refine WL_val gd0 ((o_pickF (v := .bool false) rfl rfl rfl) _) rfl ?_
                  refine WL_val gd0 ((o_move (v := .bool false) rfl) _) rfl ?_
                  refine WL_skip (gdN (b := false) 87 rfl rfl rfl) rfl ?_
                  refine WL_skip (gdN (b := false) 87 rfl rfl rfl) rfl ?_
                  refine WL_skip (gdN (b := false) 87 rfl rfl rfl) rfl ?_
                  refine WL_skip (gdN (b := false) 87 rfl rfl rfl) rfl ?_
                  refine WL_val gd0 ((o_pickF (v := .bool false) rfl rfl rfl) _) rfl ?_
                  refine WL_val gd0 ((o_move (v := .bool false) rfl) _) rfl ?_
                  refine WL_skip (gdN (b := false) 93 rfl rfl rfl) rfl ?_
                  refine WL_val gd0 ((o_pickF (v := .bool false) rfl rfl rfl) _) rfl ?_
                  refine WL_val gd0 ((o_assign (v := .bool false) rfl) _) rfl ?_
                  refine WL_nil ?_
                  refine nrm ?_
                  refine WC_ret ?_
                  refine rtE ?_
                  exact gv1 rfl rfl h

def F5_b3 (l_n2 : Nat) (b_a16 : Option Addr) (b_n17 : Nat) (l_a1 : Option Addr) (t6 : Option Addr) (i76 : Int) (w77 : World) (nx77 : Int → World → Prop) (k : Value → World → Prop) : Prop :=
  if i76 < (l_n2 : Int) then
  ∃ (p82 : Addr), b_a16 = some p82 ∧ (0 : Int) ≤ i76 ∧ i76 < (b_n17 : Int) ∧ ∃ (x84 : Bool), w77.cell? (p82.add i76.toNat) = some (.bool x84) ∧ if (!x84) = true then
    nx77 (IntKind.i64.wrap (i76 + 1)) w77
  else
    ∃ (p89 : Addr), l_a1 = some p89 ∧ (0 : Int) ≤ i76 ∧ i76 < (l_n2 : Int) ∧ ∃ (x91 : Int), w77.cell? ((p89.add (i76.toNat * 8)).add 1) = some (.int .i64 x91) ∧ Does Try.prog 16 #[.pointer t6, .int .i64 x91] w77 (fun v w93 => ∃ (r94 r95 r96 : Int) (r_a97 : Option Addr) (r_n98 r_c99 : Nat) (r_a100 : Option Addr) (r_n101 r_c102 : Nat) (r103 : Bool), v = .tuple #[.agg #[.int .i64 r94, .int .i64 r95, .int .i64 r96, .slice r_a97 r_n98 r_c99, .slice r_a100 r_n101 r_c102], .bool r103] ∧ New w93 36 [.int .i64 0, .int .i64 0, .int .i64 0, .slice none 0 0, .slice none 0 0] (fun p104 w105 => PutAll w105 p104 [.int .i64 r94, .int .i64 r95, .int .i64 r96, .slice r_a97 r_n98 r_c99, .slice r_a100 r_n101 r_c102] (fun w106 => (0 : Int) ≤ i76 ∧ i76 < (l_n2 : Int) ∧ ∃ (x110 : Bool), w106.drew.cell? ((p89.add (i76.toNat * 8)).add 2) = some (.bool x110) ∧ if (!(r103 == x110)) = true then
      k (.bool false) w106.drew
    else
      if r103 = true then
        ∃ (x114 x115 x116 : Int) (x_a117 : Option Addr) (x_n118 x_c119 : Nat) (x_a120 : Option Addr) (x_n121 x_c122 : Nat), Cells w106.drew p104 0 [.int .i64 x114, .int .i64 x115, .int .i64 x116, .slice x_a117 x_n118 x_c119, .slice x_a120 x_n121 x_c122] ∧ (0 : Int) ≤ i76 ∧ i76 < (l_n2 : Int) ∧ ∃ (x126 x127 x128 : Int) (x_a129 : Option Addr) (x_n130 x_c131 : Nat) (x_a132 : Option Addr) (x_n133 x_c134 : Nat), Cells w106.drew ((p89.add (i76.toNat * 8)).add 3) 0 [.int .i64 x126, .int .i64 x127, .int .i64 x128, .slice x_a129 x_n130 x_c131, .slice x_a132 x_n133 x_c134] ∧ Does Try.prog 17 #[.agg #[.int .i64 x114, .int .i64 x115, .int .i64 x116, .slice x_a117 x_n118 x_c119, .slice x_a120 x_n121 x_c122], .agg #[.int .i64 x126, .int .i64 x127, .int .i64 x128, .slice x_a129 x_n130 x_c131, .slice x_a132 x_n133 x_c134]] w106.drew (fun v w136 => ∃ (x137 : Bool), v = .bool x137 ∧ if (!x137) = true then
          k (.bool false) w136
        else
          if (!r103) = true then
            ∃ (x140 x141 x142 : Int) (x_a143 : Option Addr) (x_n144 x_c145 : Nat) (x_a146 : Option Addr) (x_n147 x_c148 : Nat), Cells w136 p104 0 [.int .i64 x140, .int .i64 x141, .int .i64 x142, .slice x_a143 x_n144 x_c145, .slice x_a146 x_n147 x_c148] ∧ Does Try.prog 17 #[.agg #[.int .i64 x140, .int .i64 x141, .int .i64 x142, .slice x_a143 x_n144 x_c145, .slice x_a146 x_n147 x_c148], .agg #[.int .i64 0, .int .i64 0, .int .i64 0, .slice none 0 0, .slice none 0 0]] w136 (fun v w150 => ∃ (x151 : Bool), v = .bool x151 ∧ if (!x151) = true then
              k (.bool false) w150
            else
              nx77 (IntKind.i64.wrap (i76 + 1)) w150)
          else
            nx77 (IntKind.i64.wrap (i76 + 1)) w136)
      else
        if (!r103) = true then
          ∃ (x154 x155 x156 : Int) (x_a157 : Option Addr) (x_n158 x_c159 : Nat) (x_a160 : Option Addr) (x_n161 x_c162 : Nat), Cells w106.drew p104 0 [.int .i64 x154, .int .i64 x155, .int .i64 x156, .slice x_a157 x_n158 x_c159, .slice x_a160 x_n161 x_c162] ∧ Does Try.prog 17 #[.agg #[.int .i64 x154, .int .i64 x155, .int .i64 x156, .slice x_a157 x_n158 x_c159, .slice x_a160 x_n161 x_c162], .agg #[.int .i64 0, .int .i64 0, .int .i64 0, .slice none 0 0, .slice none 0 0]] w106.drew (fun v w164 => ∃ (x165 : Bool), v = .bool x165 ∧ if (!x165) = true then
            k (.bool false) w164
          else
            nx77 (IntKind.i64.wrap (i76 + 1)) w164)
        else
          nx77 (IntKind.i64.wrap (i76 + 1)) w106.drew)))
else
  Does Try.prog 9 #[] w77 (fun v w167 => ∃ (t168 : Bool), v = .bool t168 ∧ k (.bool t168) w167)
def F5_b2 (l_n2 : Nat) (l_a1 : Option Addr) (t6 : Option Addr) (b_a16 : Option Addr) (b_n17 : Nat) (i25 : Int) (w26 : World) (k : Value → World → Prop) (nx26 : Int → World → Prop) : Prop :=
  if i25 < (l_n2 : Int) then
  ∃ (p31 : Addr), l_a1 = some p31 ∧ (0 : Int) ≤ i25 ∧ i25 < (l_n2 : Int) ∧ ∃ (x33 : Int), w26.drew.cell? ((p31.add (i25.toNat * 8)).add 1) = some (.int .i64 x33) ∧ (0 : Int) ≤ i25 ∧ i25 < (l_n2 : Int) ∧ ∃ (x37 x38 x39 : Int) (x_a40 : Option Addr) (x_n41 x_c42 : Nat) (x_a43 : Option Addr) (x_n44 x_c45 : Nat), Cells w26.drew ((p31.add (i25.toNat * 8)).add 3) 0 [.int .i64 x37, .int .i64 x38, .int .i64 x39, .slice x_a40 x_n41 x_c42, .slice x_a43 x_n44 x_c45] ∧ Does Try.prog 13 #[.pointer t6, .int .i64 x33, .agg #[.int .i64 x37, .int .i64 x38, .int .i64 x39, .slice x_a40 x_n41 x_c42, .slice x_a43 x_n44 x_c45]] w26.drew (fun v w47 => ∃ (x48 : Int), v = .int .i64 x48 ∧ ∃ (p51 : Addr), b_a16 = some p51 ∧ (0 : Int) ≤ i25 ∧ i25 < (b_n17 : Int) ∧ Put w47 (p51.add i25.toNat) (.bool (decide (x48 = 0))) (fun w53 => (0 : Int) ≤ i25 ∧ i25 < (b_n17 : Int) ∧ ∃ (x57 : Bool), w53.cell? (p51.add i25.toNat) = some (.bool x57) ∧ if x57 = true then
    (0 : Int) ≤ i25 ∧ i25 < (l_n2 : Int) ∧ ∃ (x62 : Bool), w53.cell? ((p31.add (i25.toNat * 8)).add 2) = some (.bool x62) ∧ if x62 = true then
      (0 : Int) ≤ i25 ∧ i25 < (l_n2 : Int) ∧ ∃ (x67 : Int), w53.cell? ((p31.add (i25.toNat * 8)).add 1) = some (.int .i64 x67) ∧ Does Try.prog 15 #[.pointer t6, .int .i64 x67, .bool true] w53 (fun v w69 => ∃ (x70 : Int), v = .int .i64 x70 ∧ if x70 ≠ 0 then
        k (.bool false) w69
      else
        nx26 (IntKind.i64.wrap (i25 + 1)) w69)
    else
      nx26 (IntKind.i64.wrap (i25 + 1)) w53
  else
    nx26 (IntKind.i64.wrap (i25 + 1)) w53))
else
  LoopP (fun (s : Int) w' nx' => F5_b3 l_n2 b_a16 b_n17 l_a1 t6 s w' (fun x0 w => nx' x0 w) k) 0 w26
def F5_j1 (t6 : Option Addr) (l_n2 : Nat) (l_a1 : Option Addr) (t10 : Bool) (w11 : World) (k : Value → World → Prop) : Prop :=
  if t10 = true then
  if (!(t6).isNone) = true then
    Does Try.prog 9 #[] w11 (fun v w14 => ∃ (x15 : Bool), v = .bool x15 ∧ k (.bool x15) w14)
  else
    k (.bool false) w11
else
  ∃ (b_a16 : Option Addr) (b_n17 b_c18 : Nat) (w19 : World), (Instr.makeSlice 29 (.int .i64 (l_n2 : Int)) (.int .i64 (l_n2 : Int))).run Try.prog w11 = .ok (.slice b_a16 b_n17 b_c18) w19 ∧ LoopP (fun (s : Int) w' nx' => F5_b2 l_n2 l_a1 t6 b_a16 b_n17 s w' k (fun x0 w => nx' x0 w)) 0 w19
/-- spacecraft spacecraftlaw37.ActionTriggers -/
def F5 (l_a1 : Option Addr) (l_n2 : Nat) (l_c3 : Nat) (w4 : World) (k : Value → World → Prop) : Prop :=
  Does Try.prog 7 #[] w4 (fun v w5 => ∃ (t6 : Option Addr), v = .pointer t6 ∧ Does Try.prog 8 #[.slice l_a1 l_n2 l_c3] w5 (fun v w169 => ∃ (x170 : Bool), v = .bool x170 ∧ if (!x170) = true then
  F5_j1 t6 l_n2 l_a1 true w169 k
else
  F5_j1 t6 l_n2 l_a1 ((t6).isNone) w169 k))
set_option maxRecDepth 100000 in
set_option maxHeartbeats 2000000 in
theorem w5 (l_a1 : Option Addr) (l_n2 : Nat) (l_c3 : Nat) (w4 : World) (k : Value → World → Prop) (h : F5 l_a1 l_n2 l_c3 w4 k) : Does Try.prog 5 #[.slice l_a1 l_n2 l_c3] w4 k := by
  refine enter 120 Try.func5 rfl rfl rfl ?_
  intro ρ hρ
  have e0 := hρ 0 _ rfl
  unfold F5 at h
  refine WC_seq ?_
  refine WC_region ?_
  refine WL_val gd0 ((o_assign (v := .bool false) rfl) _) rfl ?_
  refine WL_nil ?_
  refine nrm ?_
  refine WC_seq ?_
  refine WC_region ?_
  refine WL_call gd0 (o_call Try.call7 argNil _) rfl (h.mono ?_)
  rintro _ w5 ⟨t6, rfl, h⟩
  refine WL_val gd0 ((o_assign (v := .pointer t6) rfl) _) rfl ?_
  refine WL_nil ?_
  refine nrm ?_
  refine WC_seq ?_
  refine WC_cut (fun ρ w' => ∃ (t10 : Bool), ρ 16 = .bool t10 ∧ ρ 0 = .slice l_a1 l_n2 l_c3 ∧ ρ 3 = .pointer t6 ∧ F5_j1 t6 l_n2 l_a1 t10 w' k) ?_ ?_
  · refine WC_region ?_
    refine WL_val gd0 ((o_move (v := .slice l_a1 l_n2 l_c3) (by exact e0)) _) rfl ?_
    refine WL_call gd0 (o_call Try.call8 (argCons rfl argNil) _) rfl (h.mono ?_)
    rintro _ w169 ⟨x170, rfl, h⟩
    refine WL_val gd0 ((o_not rfl) _) rfl ?_
    refine WL_val gd0 ((o_move (v := .bool (!x170)) rfl) _) rfl ?_
    refine bsplit (!x170) (fun hb171 => ?_) (fun hb171 => ?_)
    · rw [if_pos hb171] at h
      refine WL_skip (gdN (b := (!x170)) 13 rfl rfl hb171) rfl ?_
      refine WL_skip (gdN (b := (!x170)) 13 rfl rfl hb171) rfl ?_
      refine WL_val gd0 ((o_pickT (v := .bool true) rfl hb171 rfl) _) rfl ?_
      refine WL_nil ?_
      refine nrm ?_
      exact ⟨_, rfl, e0, rfl, h⟩
    · rw [if_neg (neT hb171)] at h
      refine WL_val (gdY (b := (!x170)) 13 rfl rfl hb171) ((o_move (v := .pointer t6) rfl) _) rfl ?_
      refine WL_val (gdY (b := (!x170)) 13 rfl rfl hb171) ((o_eqlPtrNil Try.underlying23 rfl rfl) _) rfl ?_
      refine WL_val gd0 ((o_pickF (v := .bool ((t6).isNone)) rfl hb171 rfl) _) rfl ?_
      refine WL_nil ?_
      refine nrm ?_
      exact ⟨_, rfl, e0, rfl, h⟩
  · rintro ρ w11 ⟨t10, e16_9, e0_7, e3_8, h⟩
    unfold F5_j1 at h
    refine WC_cond (t := t10) (by exact e16_9) (fun hb12 => ?_) (fun hb12 => ?_)
    · rw [if_pos hb12] at h
      refine WC_seq ?_
      refine WC_region ?_
      refine WL_val gd0 ((o_move (v := .pointer t6) (by exact e3_8)) _) rfl ?_
      refine WL_val gd0 ((o_neqPtrNil Try.underlying23 rfl rfl) _) rfl ?_
      refine WL_val gd0 ((o_move (v := .bool (!(t6).isNone)) rfl) _) rfl ?_
      refine bsplit (!(t6).isNone) (fun hb13 => ?_) (fun hb13 => ?_)
      · rw [if_pos hb13] at h
        refine WL_call (gdY (b := (!(t6).isNone)) 19 rfl rfl hb13) (o_call Try.call9 argNil _) rfl (h.mono ?_)
        rintro _ w14 ⟨x15, rfl, h⟩
        refine WL_val gd0 ((o_pickT (v := .bool x15) rfl hb13 rfl) _) rfl ?_
        refine WL_val gd0 ((o_assign (v := .bool x15) rfl) _) rfl ?_
        refine WL_nil ?_
        refine nrm ?_
        refine WC_ret ?_
        refine rtT ?_
        refine rtE ?_
        exact gv1 rfl rfl h
      · rw [if_neg (neT hb13)] at h
        refine WL_skip (gdN (b := (!(t6).isNone)) 19 rfl rfl hb13) rfl ?_
        refine WL_val gd0 ((o_pickF (v := .bool false) rfl hb13 rfl) _) rfl ?_
        refine WL_val gd0 ((o_assign (v := .bool false) rfl) _) rfl ?_
        refine WL_nil ?_
        refine nrm ?_
        refine WC_ret ?_
        refine rtT ?_
        refine rtE ?_
        exact gv1 rfl rfl h
    · rw [if_neg (neT hb12)] at h
      refine WC_skip ?_
      refine nrm ?_
      refine WC_seq ?_
      refine WC_region ?_
      refine WL_val gd0 ((o_move (v := .slice l_a1 l_n2 l_c3) (by exact e0_7)) _) rfl ?_
      refine WL_val gd0 ((o_len Try.underlying22 rfl) _) rfl ?_
      obtain ⟨b_a16, b_n17, b_c18, w19, r20, h⟩ := h
      refine WL_val gd0 (o_makeSlice rfl rfl r20) rfl ?_
      refine WL_val gd0 ((o_assign (v := .slice b_a16 b_n17 b_c18) rfl) _) rfl ?_
      refine WL_nil ?_
      refine nrm ?_
      refine WC_seq ?_
      refine WC_seq ?_
      refine WC_region ?_
      refine WL_val gd0 ((o_assign (v := .int .i64 0) rfl) _) rfl ?_
      refine WL_nil ?_
      refine nrm ?_
      refine WC_block ?_
      obtain ⟨J26, ⟨n26, h0⟩, hr26⟩ := h
      refine WC_loop (fun n ρ w' => ∃ (i25 : Int), ρ 5 = .int .i64 i25 ∧ ρ 0 = .slice l_a1 l_n2 l_c3 ∧ ρ 3 = .pointer t6 ∧ ρ 4 = .slice b_a16 b_n17 b_c18 ∧ J26 n i25 w') ⟨n26, _, rfl, e0_7, e3_8, rfl, h0⟩ ?_
      rintro n26 ρ w26 ⟨i25, e5_24, e0_21, e3_22, e4_23, h⟩
      have h : F5_b2 l_n2 l_a1 t6 b_a16 b_n17 i25 w26 k (fun x0 w => ∃ m, m < n26 ∧ J26 m x0 w) := hr26 n26 i25 w26 h
      unfold F5_b2 at h
      refine WC_seq ?_
      refine WC_seq ?_
      refine WC_region ?_
      refine WL_val gd0 ((o_move (v := .int .i64 i25) (by exact e5_24)) _) rfl ?_
      refine WL_val gd0 ((o_move (v := .slice l_a1 l_n2 l_c3) (by exact e0_21)) _) rfl ?_
      refine WL_val gd0 ((o_len Try.underlying22 rfl) _) rfl ?_
      refine WL_val gd0 ((o_lss rfl rfl) _) rfl ?_
      refine WL_nil ?_
      refine nrm ?_
      refine WC_cond (t := (decide (i25 < (l_n2 : Int)))) rfl (fun hb28 => ?_) (fun hb28 => ?_)
      · rw [if_pos (of_decide_eq_true hb28)] at h
        refine WC_skip ?_
        refine nrm ?_
        refine WC_seq ?_
        refine WC_block ?_
        refine WC_seq ?_
        refine WC_draws [13, 16] (.look 0 (.look 1 (.look 2 (.look 3 (.look 4 (.look 5 (.look 6 (.look 7 (.look 8 (.look 9 (.look 10 (.look 11 (.look 12 (.act 13 (.look 14 (.look 15 (.act 16 .nil))))))))))))))))) Try.mixed (by kernel_rfl) ?_
        refine WQ_val rfl gd0 (o_move (v := .slice b_a16 b_n17 b_c18) (by exact e4_23)) rfl ?_
        refine WQ_val rfl gd0 (o_move (v := .int .i64 i25) (by exact e5_24)) rfl ?_
        refine WQ_val rfl gd0 (o_move (v := .pointer t6) (by exact e3_22)) rfl ?_
        refine WQ_val rfl gd0 (o_move (v := .slice l_a1 l_n2 l_c3) (by exact e0_21)) rfl ?_
        refine WQ_val rfl gd0 (o_move (v := .int .i64 i25) (by exact e5_24)) rfl ?_
        obtain ⟨p31, q32, h⟩ := h
        obtain ⟨l29, u30, h⟩ := h
        refine WQ_val rfl gd0 (o_indexAddr Try.underlying22 Try.sizeOf38 (by exact (congrArg (fun z => Value.slice z l_n2 l_c3) q32)) rfl l29 u30) rfl ?_
        refine WQ_val rfl gd0 (o_fieldAddr 1 Try.underlying38 rfl Try.sizeOf3 rfl rfl rfl) rfl ?_
        obtain ⟨x33, hc34, h⟩ := h
        refine WQ_look (fun w => w.cell? ((p31.add (i25.toNat * 8)).add 1) = some (.int .i64 x33)) rfl gd0 (fun w hc => (o_load Try.isAgg3 rfl hc)) hc34 rfl ?_
        refine WQ_val rfl gd0 (o_move (v := .slice l_a1 l_n2 l_c3) (by exact e0_21)) rfl ?_
        refine WQ_val rfl gd0 (o_move (v := .int .i64 i25) (by exact e5_24)) rfl ?_
        obtain ⟨l35, u36, h⟩ := h
        refine WQ_val rfl gd0 (o_indexAddr Try.underlying22 Try.sizeOf38 (by exact (congrArg (fun z => Value.slice z l_n2 l_c3) q32)) rfl l35 u36) rfl ?_
        refine WQ_val rfl gd0 (o_fieldAddr 3 Try.underlying38 rfl Try.sizeOf36 rfl rfl rfl) rfl ?_
        obtain ⟨x37, x38, x39, x_a40, x_n41, x_c42, x_a43, x_n44, x_c45, hc46, h⟩ := h
        refine WQ_look (fun w => Cells w ((p31.add (i25.toNat * 8)).add 3) 0 [.int .i64 x37, .int .i64 x38, .int .i64 x39, .slice x_a40 x_n41 x_c42, .slice x_a43 x_n44 x_c45]) rfl gd0 (fun w hc => (o_loadAgg (vs := [.int .i64 x37, .int .i64 x38, .int .i64 x39, .slice x_a40 x_n41 x_c42, .slice x_a43 x_n44 x_c45]) Try.isAgg36 Try.sizeOf36 rfl hc)) hc46 rfl ?_
        refine WQ_call rfl gd0 (o_call Try.call13 (argCons rfl (argCons rfl (argCons rfl argNil))) _) rfl (h.mono ?_)
        rintro _ w47 ⟨x48, rfl, h⟩
        refine ⟨⟨⟨trivial, depT (by kernel_rfl)⟩, depT (by kernel_rfl)⟩, ?_⟩
        refine WQ_val rfl gd0 (o_eql rfl rfl) rfl ?_
        obtain ⟨p51, q52, h⟩ := h
        obtain ⟨l49, u50, h⟩ := h
        refine WQ_val rfl gd0 (o_indexAddr1 Try.underlying29 Try.sizeOf4 (by exact (congrArg (fun z => Value.slice z b_n17 b_c18) q52)) rfl l49 u50) rfl ?_
        obtain ⟨c54, h⟩ := h
        refine WQ_do rfl gd0 (o_store (v := .bool (decide (x48 = 0))) Try.sizeOf4 rfl rfl rfl c54) (by exact ⟨⟨trivial, depT (by kernel_rfl)⟩, depT (by kernel_rfl)⟩) ?_
        generalize hw53 : World.setCell w47 (p51.add i25.toNat) (.bool (decide (x48 = 0))) = w53 at h ⊢
        try dsimp only at h
        refine WQ_nil ?_
        refine nrm ?_
        refine WC_seq ?_
        refine WC_region ?_
        refine WL_val gd0 ((o_move (v := .slice b_a16 b_n17 b_c18) (by exact e4_23)) _) rfl ?_
        refine WL_val gd0 ((o_move (v := .int .i64 i25) (by exact e5_24)) _) rfl ?_
        obtain ⟨l55, u56, h⟩ := h
        refine WL_val gd0 ((o_indexAddr1 Try.underlying29 Try.sizeOf4 (by exact (congrArg (fun z => Value.slice z b_n17 b_c18) q52)) rfl l55 u56) _) rfl ?_
        obtain ⟨x57, hc58, h⟩ := h
        refine WL_val gd0 (o_load Try.isAgg4 rfl hc58) rfl ?_
        refine WL_val gd0 ((o_move (v := .bool x57) rfl) _) rfl ?_
        refine bsplit x57 (fun hb59 => ?_) (fun hb59 => ?_)
        · rw [if_pos hb59] at h
          refine WL_val (gdY (b := x57) 51 rfl rfl hb59) ((o_move (v := .slice l_a1 l_n2 l_c3) (by exact e0_21)) _) rfl ?_
          refine WL_val (gdY (b := x57) 51 rfl rfl hb59) ((o_move (v := .int .i64 i25) (by exact e5_24)) _) rfl ?_
          obtain ⟨l60, u61, h⟩ := h
          refine WL_val (gdY (b := x57) 51 rfl rfl hb59) ((o_indexAddr Try.underlying22 Try.sizeOf38 (by exact (congrArg (fun z => Value.slice z l_n2 l_c3) q32)) rfl l60 u61) _) rfl ?_
          refine WL_val (gdY (b := x57) 51 rfl rfl hb59) ((o_fieldAddr 2 Try.underlying38 rfl Try.sizeOf4 rfl rfl rfl) _) rfl ?_
          obtain ⟨x62, hc63, h⟩ := h
          refine WL_val (gdY (b := x57) 51 rfl rfl hb59) (o_load Try.isAgg4 rfl hc63) rfl ?_
          refine WL_val gd0 ((o_pickT (v := .bool x62) rfl hb59 rfl) _) rfl ?_
          refine WL_val gd0 ((o_move (v := .bool x62) rfl) _) rfl ?_
          refine bsplit x62 (fun hb64 => ?_) (fun hb64 => ?_)
          · rw [if_pos hb64] at h
            refine WL_val (gdY (b := x62) 58 rfl rfl hb64) ((o_move (v := .pointer t6) (by exact e3_22)) _) rfl ?_
            refine WL_val (gdY (b := x62) 58 rfl rfl hb64) ((o_move (v := .slice l_a1 l_n2 l_c3) (by exact e0_21)) _) rfl ?_
            refine WL_val (gdY (b := x62) 58 rfl rfl hb64) ((o_move (v := .int .i64 i25) (by exact e5_24)) _) rfl ?_
            obtain ⟨l65, u66, h⟩ := h
            refine WL_val (gdY (b := x62) 58 rfl rfl hb64) ((o_indexAddr Try.underlying22 Try.sizeOf38 (by exact (congrArg (fun z => Value.slice z l_n2 l_c3) q32)) rfl l65 u66) _) rfl ?_
            refine WL_val (gdY (b := x62) 58 rfl rfl hb64) ((o_fieldAddr 1 Try.underlying38 rfl Try.sizeOf3 rfl rfl rfl) _) rfl ?_
            obtain ⟨x67, hc68, h⟩ := h
            refine WL_val (gdY (b := x62) 58 rfl rfl hb64) (o_load Try.isAgg3 rfl hc68) rfl ?_
            refine WL_call (gdY (b := x62) 58 rfl rfl hb64) (o_call Try.call15 (argCons rfl (argCons rfl (argCons rfl argNil))) _) rfl (h.mono ?_)
            rintro _ w69 ⟨x70, rfl, h⟩
            refine WL_val (gdY (b := x62) 58 rfl rfl hb64) ((o_neq rfl rfl) _) rfl ?_
            refine WL_val gd0 ((o_pickT (v := .bool (decide (x70 ≠ 0))) rfl hb64 rfl) _) rfl ?_
            refine WL_nil ?_
            refine nrm ?_
            refine WC_cond (t := (decide (x70 ≠ 0))) rfl (fun hb71 => ?_) (fun hb71 => ?_)
            · rw [if_pos (of_decide_eq_true hb71)] at h
              refine WC_seq ?_
              refine WC_region ?_
              refine WL_val gd0 ((o_assign (v := .bool false) rfl) _) rfl ?_
              refine WL_nil ?_
              refine nrm ?_
              refine WC_ret ?_
              refine rtB ?_
              refine rtT ?_
              refine rtT ?_
              refine rtB ?_
              refine rtT ?_
              refine rtE ?_
              exact gv1 rfl rfl h
            · rw [if_neg (of_decide_eq_false hb71)] at h
              refine WC_skip ?_
              refine nrmB ?_
              refine nrm ?_
              refine WC_region ?_
              refine WL_val gd0 ((o_move (v := .int .i64 i25) (by exact e5_24)) _) rfl ?_
              refine WL_val gd0 ((o_add rfl rfl) _) rfl ?_
              refine WL_val gd0 ((o_assign (v := .int .i64 (IntKind.i64.wrap (i25 + 1))) rfl) _) rfl ?_
              refine WL_nil ?_
              refine nrm ?_
              obtain ⟨m27, hm27, h⟩ := h
              exact ⟨m27, hm27, _, rfl, e0_21, e3_22, e4_23, h⟩
          · rw [if_neg (neT hb64)] at h
            refine WL_skip (gdN (b := x62) 58 rfl rfl hb64) rfl ?_
            refine WL_skip (gdN (b := x62) 58 rfl rfl hb64) rfl ?_
            refine WL_skip (gdN (b := x62) 58 rfl rfl hb64) rfl ?_
            refine WL_skip (gdN (b := x62) 58 rfl rfl hb64) rfl ?_
            refine WL_skip (gdN (b := x62) 58 rfl rfl hb64) rfl ?_
            refine WL_skip (gdN (b := x62) 58 rfl rfl hb64) rfl ?_
            refine WL_skip (gdN (b := x62) 58 rfl rfl hb64) rfl ?_
            refine WL_skip (gdN (b := x62) 58 rfl rfl hb64) rfl ?_
            refine WL_val gd0 ((o_pickF (v := .bool false) rfl hb64 rfl) _) rfl ?_
            refine WL_nil ?_
            refine nrm ?_
            refine WC_cond (t := false) rfl (fun hx => by rw [(rfl : false = false)] at hx; cases hx) (fun _ => ?_)
            refine WC_skip ?_
            refine nrmB ?_
            refine nrm ?_
            refine WC_region ?_
            refine WL_val gd0 ((o_move (v := .int .i64 i25) (by exact e5_24)) _) rfl ?_
            refine WL_val gd0 ((o_add rfl rfl) _) rfl ?_
            refine WL_val gd0 ((o_assign (v := .int .i64 (IntKind.i64.wrap (i25 + 1))) rfl) _) rfl ?_
            refine WL_nil ?_
            refine nrm ?_
            obtain ⟨m27, hm27, h⟩ := h
            exact ⟨m27, hm27, _, rfl, e0_21, e3_22, e4_23, h⟩
        · rw [if_neg (neT hb59)] at h
          refine WL_skip (gdN (b := x57) 51 rfl rfl hb59) rfl ?_
          refine WL_skip (gdN (b := x57) 51 rfl rfl hb59) rfl ?_
          refine WL_skip (gdN (b := x57) 51 rfl rfl hb59) rfl ?_
          refine WL_skip (gdN (b := x57) 51 rfl rfl hb59) rfl ?_
          refine WL_skip (gdN (b := x57) 51 rfl rfl hb59) rfl ?_
          refine WL_val gd0 ((o_pickF (v := .bool false) rfl hb59 rfl) _) rfl ?_
          refine WL_val gd0 ((o_move (v := .bool false) rfl) _) rfl ?_
          refine WL_skip (gdN (b := false) 58 rfl rfl rfl) rfl ?_
          refine WL_skip (gdN (b := false) 58 rfl rfl rfl) rfl ?_
          refine WL_skip (gdN (b := false) 58 rfl rfl rfl) rfl ?_
          refine WL_skip (gdN (b := false) 58 rfl rfl rfl) rfl ?_
          refine WL_skip (gdN (b := false) 58 rfl rfl rfl) rfl ?_
          refine WL_skip (gdN (b := false) 58 rfl rfl rfl) rfl ?_
          refine WL_skip (gdN (b := false) 58 rfl rfl rfl) rfl ?_
          refine WL_skip (gdN (b := false) 58 rfl rfl rfl) rfl ?_
          refine WL_val gd0 ((o_pickF (v := .bool false) rfl rfl rfl) _) rfl ?_
          refine WL_nil ?_
          refine nrm ?_
          refine WC_cond (t := false) rfl (fun hx => by rw [(rfl : false = false)] at hx; cases hx) (fun _ => ?_)
          refine WC_skip ?_
          refine nrmB ?_
          refine nrm ?_
          refine WC_region ?_
          refine WL_val gd0 ((o_move (v := .int .i64 i25) (by exact e5_24)) _) rfl ?_
          refine WL_val gd0 ((o_add rfl rfl) _) rfl ?_
          refine WL_val gd0 ((o_assign (v := .int .i64 (IntKind.i64.wrap (i25 + 1))) rfl) _) rfl ?_
          refine WL_nil ?_
          refine nrm ?_
          obtain ⟨m27, hm27, h⟩ := h
          exact ⟨m27, hm27, _, rfl, e0_21, e3_22, e4_23, h⟩
      · rw [if_neg (of_decide_eq_false hb28)] at h
        refine WC_exit ?_
        refine exT ?_
        refine exT ?_
        refine exB ?_
        refine nrm ?_
        refine WC_seq ?_
        refine WC_seq ?_
        refine WC_region ?_
        refine WL_val gd0 ((o_assign (v := .int .i64 0) rfl) _) rfl ?_
        refine WL_nil ?_
        refine nrm ?_
        refine WC_block ?_
        obtain ⟨J77, ⟨n77, h0⟩, hr77⟩ := h
        refine WC_loop (fun n ρ w' => ∃ (i76 : Int), ρ 6 = .int .i64 i76 ∧ ρ 0 = .slice l_a1 l_n2 l_c3 ∧ ρ 3 = .pointer t6 ∧ ρ 4 = .slice b_a16 b_n17 b_c18 ∧ J77 n i76 w') ⟨n77, _, rfl, e0_21, e3_22, e4_23, h0⟩ ?_
        rintro n77 ρ w77 ⟨i76, e6_75, e0_72, e3_73, e4_74, h⟩
        have h : F5_b3 l_n2 b_a16 b_n17 l_a1 t6 i76 w77 (fun x0 w => ∃ m, m < n77 ∧ J77 m x0 w) k := hr77 n77 i76 w77 h
        unfold F5_b3 at h
        refine WC_seq ?_
        refine WC_seq ?_
        refine WC_region ?_
        refine WL_val gd0 ((o_move (v := .int .i64 i76) (by exact e6_75)) _) rfl ?_
        refine WL_val gd0 ((o_move (v := .slice l_a1 l_n2 l_c3) (by exact e0_72)) _) rfl ?_
        refine WL_val gd0 ((o_len Try.underlying22 rfl) _) rfl ?_
        refine WL_val gd0 ((o_lss rfl rfl) _) rfl ?_
        refine WL_nil ?_
        refine nrm ?_
        refine WC_cond (t := (decide (i76 < (l_n2 : Int)))) rfl (fun hb79 => ?_) (fun hb79 => ?_)
        · rw [if_pos (of_decide_eq_true hb79)] at h
          refine WC_skip ?_
          refine nrm ?_
          refine WC_seq ?_
          refine WC_block ?_
          refine WC_seq ?_
          refine WC_seq ?_
          refine WC_region ?_
          refine WL_val gd0 ((o_move (v := .slice b_a16 b_n17 b_c18) (by exact e4_74)) _) rfl ?_
          refine WL_val gd0 ((o_move (v := .int .i64 i76) (by exact e6_75)) _) rfl ?_
          obtain ⟨p82, q83, h⟩ := h
          obtain ⟨l80, u81, h⟩ := h
          refine WL_val gd0 ((o_indexAddr1 Try.underlying29 Try.sizeOf4 (by exact (congrArg (fun z => Value.slice z b_n17 b_c18) q83)) rfl l80 u81) _) rfl ?_
          obtain ⟨x84, hc85, h⟩ := h
          refine WL_val gd0 (o_load Try.isAgg4 rfl hc85) rfl ?_
          refine WL_val gd0 ((o_not rfl) _) rfl ?_
          refine WL_nil ?_
          refine nrm ?_
          refine WC_cond (t := (!x84)) rfl (fun hb86 => ?_) (fun hb86 => ?_)
          · rw [if_pos hb86] at h
            refine WC_exit ?_
            refine exT ?_
            refine exB ?_
            refine nrm ?_
            refine WC_region ?_
            refine WL_val gd0 ((o_move (v := .int .i64 i76) (by exact e6_75)) _) rfl ?_
            refine WL_val gd0 ((o_add rfl rfl) _) rfl ?_
            refine WL_val gd0 ((o_assign (v := .int .i64 (IntKind.i64.wrap (i76 + 1))) rfl) _) rfl ?_
            refine WL_nil ?_
            refine nrm ?_
            obtain ⟨m78, hm78, h⟩ := h
            exact ⟨m78, hm78, _, rfl, e0_72, e3_73, e4_74, h⟩
          · rw [if_neg (neT hb86)] at h
            refine WC_skip ?_
            refine nrm ?_
            refine WC_seq ?_
            refine WC_region ?_
            refine WL_val gd0 ((o_move (v := .pointer t6) (by exact e3_73)) _) rfl ?_
            refine WL_val gd0 ((o_move (v := .slice l_a1 l_n2 l_c3) (by exact e0_72)) _) rfl ?_
            refine WL_val gd0 ((o_move (v := .int .i64 i76) (by exact e6_75)) _) rfl ?_
            obtain ⟨p89, q90, h⟩ := h
            obtain ⟨l87, u88, h⟩ := h
            refine WL_val gd0 ((o_indexAddr Try.underlying22 Try.sizeOf38 (by exact (congrArg (fun z => Value.slice z l_n2 l_c3) q90)) rfl l87 u88) _) rfl ?_
            refine WL_val gd0 ((o_fieldAddr 1 Try.underlying38 rfl Try.sizeOf3 rfl rfl rfl) _) rfl ?_
            obtain ⟨x91, hc92, h⟩ := h
            refine WL_val gd0 (o_load Try.isAgg3 rfl hc92) rfl ?_
            refine WL_call gd0 (o_call Try.call16 (argCons rfl (argCons rfl argNil)) _) rfl (h.mono ?_)
            rintro _ w93 ⟨r94, r95, r96, r_a97, r_n98, r_c99, r_a100, r_n101, r_c102, r103, rfl, h⟩
            refine WL_val gd0 ((o_move (v := .tuple #[.agg #[.int .i64 r94, .int .i64 r95, .int .i64 r96, .slice r_a97 r_n98 r_c99, .slice r_a100 r_n101 r_c102], .bool r103]) rfl) _) rfl ?_
            refine WL_val gd0 ((o_extract (vs := [.agg #[.int .i64 r94, .int .i64 r95, .int .i64 r96, .slice r_a97 r_n98 r_c99, .slice r_a100 r_n101 r_c102], .bool r103]) (r := .agg #[.int .i64 r94, .int .i64 r95, .int .i64 r96, .slice r_a97 r_n98 r_c99, .slice r_a100 r_n101 r_c102]) rfl rfl) _) rfl ?_
            refine WL_val gd0 ((o_extract (vs := [.agg #[.int .i64 r94, .int .i64 r95, .int .i64 r96, .slice r_a97 r_n98 r_c99, .slice r_a100 r_n101 r_c102], .bool r103]) (r := .bool r103) rfl rfl) _) rfl ?_
            have h := New.out h
            refine WL_val gd0 (o_alloc (z := .agg #[.int .i64 0, .int .i64 0, .int .i64 0, .slice none 0 0, .slice none 0 0]) (cs := [.int .i64 0, .int .i64 0, .int .i64 0, .slice none 0 0, .slice none 0 0]) Try.zeroValue36 rfl) rfl ?_
            generalize hp104 : fresh w93 = p104 at h ⊢
            generalize hw105 : push w93 36 [.int .i64 0, .int .i64 0, .int .i64 0, .slice none 0 0, .slice none 0 0] = w105 at h ⊢
            try dsimp only at h
            obtain ⟨c107, h⟩ := h
            refine WL_act gd0 (o_storeAgg (vs := [.int .i64 r94, .int .i64 r95, .int .i64 r96, .slice r_a97 r_n98 r_c99, .slice r_a100 r_n101 r_c102]) Try.sizeOf36 rfl rfl rfl c107) ?_
            generalize hw106 : setAll w105 p104 0 [.int .i64 r94, .int .i64 r95, .int .i64 r96, .slice r_a97 r_n98 r_c99, .slice r_a100 r_n101 r_c102] = w106 at h ⊢
            try dsimp only at h
            refine WL_val gd0 ((o_assign (v := .bool r103) rfl) _) rfl ?_
            refine WL_nil ?_
            refine nrm ?_
            refine WC_seq ?_
            refine WC_draws [16, 26] (.look 0 (.look 1 (.look 2 (.look 3 (.look 4 (.look 5 (.look 6 (.look 7 (.look 8 (.look 9 (.look 10 (.look 11 (.look 12 (.look 13 (.look 14 (.look 15 (.act 16 (.look 17 (.look 18 (.look 19 (.look 20 (.look 21 (.look 22 (.look 23 (.look 24 (.look 25 (.act 26 (.look 27 (.look 28 (.look 29 .nil)))))))))))))))))))))))))))))) Try.mixed (by kernel_rfl) ?_
            refine WQ_val rfl gd0 (o_move (v := .bool r103) rfl) rfl ?_
            refine WQ_val rfl gd0 (o_move (v := .slice l_a1 l_n2 l_c3) (by exact e0_72)) rfl ?_
            refine WQ_val rfl gd0 (o_move (v := .int .i64 i76) (by exact e6_75)) rfl ?_
            obtain ⟨l108, u109, h⟩ := h
            refine WQ_val rfl gd0 (o_indexAddr Try.underlying22 Try.sizeOf38 (by exact (congrArg (fun z => Value.slice z l_n2 l_c3) q90)) rfl l108 u109) rfl ?_
            refine WQ_val rfl gd0 (o_fieldAddr 2 Try.underlying38 rfl Try.sizeOf4 rfl rfl rfl) rfl ?_
            obtain ⟨x110, hc111, h⟩ := h
            refine WQ_look (fun w => w.cell? ((p89.add (i76.toNat * 8)).add 2) = some (.bool x110)) rfl gd0 (fun w hc => (o_load Try.isAgg4 rfl hc)) hc111 rfl ?_
            refine WQ_val rfl gd0 (o_neqBool Try.underlying4 rfl rfl) rfl ?_
            refine WQ_val rfl gd0 (o_move (v := .bool (!(r103 == x110))) rfl) rfl ?_
            refine bsplit (!(r103 == x110)) (fun hb112 => ?_) (fun hb112 => ?_)
            · rw [if_pos hb112] at h
              refine WQ_skip rfl (gdN (b := (!(r103 == x110))) 96 rfl rfl hb112) rfl ?_
              refine WQ_skip rfl (gdN (b := (!(r103 == x110))) 96 rfl rfl hb112) rfl ?_
              refine WQ_skip rfl (gdU 98 rfl rfl) rfl ?_
              refine WQ_skip rfl (gdU 98 rfl rfl) rfl ?_
              refine WQ_skip rfl (gdU 98 rfl rfl) rfl ?_
              refine WQ_skip rfl (gdU 98 rfl rfl) rfl ?_
              refine WQ_skip rfl (gdU 98 rfl rfl) rfl ?_
              refine WQ_skip rfl (gdU 98 rfl rfl) rfl ?_
              refine WQ_passAct rfl (gdU 98 rfl rfl) rfl (by exact ⟨trivial, depT (by kernel_rfl)⟩) ?_
              refine WQ_skip rfl (gdU 98 rfl rfl) rfl ?_
              refine WQ_skip rfl (gdN (b := (!(r103 == x110))) 96 rfl rfl hb112) rfl ?_
              refine WQ_val rfl gd0 (o_pickT (v := .bool true) rfl hb112 rfl) rfl ?_
              refine WQ_val rfl gd0 (o_move (v := .bool true) rfl) rfl ?_
              refine WQ_skip rfl (gdN (b := true) 109 rfl rfl rfl) rfl ?_
              refine WQ_skip rfl (gdN (b := true) 109 rfl rfl rfl) rfl ?_
              refine WQ_skip rfl (gdN (b := true) 109 rfl rfl rfl) rfl ?_
              refine WQ_skip rfl (gdU 112 rfl rfl) rfl ?_
              refine WQ_skip rfl (gdU 112 rfl rfl) rfl ?_
              refine WQ_passAct rfl (gdU 112 rfl rfl) rfl (by exact ⟨trivial, depT (by kernel_rfl)⟩) ?_
              refine WQ_skip rfl (gdU 112 rfl rfl) rfl ?_
              refine WQ_skip rfl (gdN (b := true) 109 rfl rfl rfl) rfl ?_
              refine WQ_val rfl gd0 (o_pickT (v := .bool true) rfl rfl rfl) rfl ?_
              refine WQ_nil ?_
              refine nrm ?_
              refine WC_cond (t := true) rfl (fun _ => ?_) (fun hx => by rw [(rfl : true = true)] at hx; cases hx)
              refine WC_seq ?_
              refine WC_region ?_
              refine WL_val gd0 ((o_assign (v := .bool false) rfl) _) rfl ?_
              refine WL_nil ?_
              refine nrm ?_
              refine WC_ret ?_
              refine rtB ?_
              refine rtT ?_
              refine rtT ?_
              refine rtB ?_
              refine rtT ?_
              refine rtE ?_
              exact gv1 rfl rfl h
            · rw [if_neg (neT hb112)] at h
              refine WQ_val rfl (gdY (b := (!(r103 == x110))) 96 rfl rfl hb112) (o_move (v := .bool r103) rfl) rfl ?_
              refine WQ_val rfl (gdY (b := (!(r103 == x110))) 96 rfl rfl hb112) (o_move (v := .bool r103) rfl) rfl ?_
              refine bsplit r103 (fun hb113 => ?_) (fun hb113 => ?_)
              · rw [if_pos hb113] at h
                obtain ⟨x114, x115, x116, x_a117, x_n118, x_c119, x_a120, x_n121, x_c122, hc123, h⟩ := h
                refine WQ_look (fun w => Cells w p104 0 [.int .i64 x114, .int .i64 x115, .int .i64 x116, .slice x_a117 x_n118 x_c119, .slice x_a120 x_n121 x_c122]) rfl (gdY (b := r103) 98 rfl rfl hb113) (fun w hc => (o_loadAgg (vs := [.int .i64 x114, .int .i64 x115, .int .i64 x116, .slice x_a117 x_n118 x_c119, .slice x_a120 x_n121 x_c122]) Try.isAgg36 Try.sizeOf36 rfl hc)) hc123 rfl ?_
                refine WQ_val rfl (gdY (b := r103) 98 rfl rfl hb113) (o_move (v := .slice l_a1 l_n2 l_c3) (by exact e0_72)) rfl ?_
                refine WQ_val rfl (gdY (b := r103) 98 rfl rfl hb113) (o_move (v := .int .i64 i76) (by exact e6_75)) rfl ?_
                obtain ⟨l124, u125, h⟩ := h
                refine WQ_val rfl (gdY (b := r103) 98 rfl rfl hb113) (o_indexAddr Try.underlying22 Try.sizeOf38 (by exact (congrArg (fun z => Value.slice z l_n2 l_c3) q90)) rfl l124 u125) rfl ?_
                refine WQ_val rfl (gdY (b := r103) 98 rfl rfl hb113) (o_fieldAddr 3 Try.underlying38 rfl Try.sizeOf36 rfl rfl rfl) rfl ?_
                obtain ⟨x126, x127, x128, x_a129, x_n130, x_c131, x_a132, x_n133, x_c134, hc135, h⟩ := h
                refine WQ_look (fun w => Cells w ((p89.add (i76.toNat * 8)).add 3) 0 [.int .i64 x126, .int .i64 x127, .int .i64 x128, .slice x_a129 x_n130 x_c131, .slice x_a132 x_n133 x_c134]) rfl (gdY (b := r103) 98 rfl rfl hb113) (fun w hc => (o_loadAgg (vs := [.int .i64 x126, .int .i64 x127, .int .i64 x128, .slice x_a129 x_n130 x_c131, .slice x_a132 x_n133 x_c134]) Try.isAgg36 Try.sizeOf36 rfl hc)) hc135 rfl ?_
                refine WQ_call rfl (gdY (b := r103) 98 rfl rfl hb113) (o_call Try.call17 (argCons rfl (argCons rfl argNil)) _) rfl (h.mono ?_)
                rintro _ w136 ⟨x137, rfl, h⟩
                refine ⟨⟨⟨⟨trivial, depT (by kernel_rfl)⟩, depT (by kernel_rfl)⟩, depT (by kernel_rfl)⟩, ?_⟩
                refine WQ_val rfl (gdY (b := r103) 98 rfl rfl hb113) (o_not rfl) rfl ?_
                refine WQ_val rfl (gdY (b := (!(r103 == x110))) 96 rfl rfl hb112) (o_pickT (v := .bool (!x137)) rfl hb113 rfl) rfl ?_
                refine WQ_val rfl gd0 (o_pickF (v := .bool (!x137)) rfl hb112 rfl) rfl ?_
                refine WQ_val rfl gd0 (o_move (v := .bool (!x137)) rfl) rfl ?_
                refine bsplit (!x137) (fun hb138 => ?_) (fun hb138 => ?_)
                · rw [if_pos hb138] at h
                  refine WQ_skip rfl (gdN (b := (!x137)) 109 rfl rfl hb138) rfl ?_
                  refine WQ_skip rfl (gdN (b := (!x137)) 109 rfl rfl hb138) rfl ?_
                  refine WQ_skip rfl (gdN (b := (!x137)) 109 rfl rfl hb138) rfl ?_
                  refine WQ_skip rfl (gdU 112 rfl rfl) rfl ?_
                  refine WQ_skip rfl (gdU 112 rfl rfl) rfl ?_
                  refine WQ_passAct rfl (gdU 112 rfl rfl) rfl (by exact ⟨⟨⟨trivial, depT (by kernel_rfl)⟩, depT (by kernel_rfl)⟩, depT (by kernel_rfl)⟩) ?_
                  refine WQ_skip rfl (gdU 112 rfl rfl) rfl ?_
                  refine WQ_skip rfl (gdN (b := (!x137)) 109 rfl rfl hb138) rfl ?_
                  refine WQ_val rfl gd0 (o_pickT (v := .bool true) rfl hb138 rfl) rfl ?_
                  refine WQ_nil ?_
                  refine nrm ?_
                  refine WC_cond (t := true) rfl (fun _ => ?_) (fun hx => by rw [(rfl : true = true)] at hx; cases hx)
                  refine WC_seq ?_
                  refine WC_region ?_
                  refine WL_val gd0 ((o_assign (v := .bool false) rfl) _) rfl ?_
                  refine WL_nil ?_
                  refine nrm ?_
                  refine WC_ret ?_
                  refine rtB ?_
                  refine rtT ?_
                  refine rtT ?_
                  refine rtB ?_
                  refine rtT ?_
                  refine rtE ?_
                  exact gv1 rfl rfl h
                · rw [if_neg (neT hb138)] at h
                  refine WQ_val rfl (gdY (b := (!x137)) 109 rfl rfl hb138) (o_move (v := .bool r103) rfl) rfl ?_
                  refine WQ_val rfl (gdY (b := (!x137)) 109 rfl rfl hb138) (o_not rfl) rfl ?_
                  refine WQ_val rfl (gdY (b := (!x137)) 109 rfl rfl hb138) (o_move (v := .bool (!r103)) rfl) rfl ?_
                  refine bsplit (!r103) (fun hb139 => ?_) (fun hb139 => ?_)
                  · rw [if_pos hb139] at h
                    obtain ⟨x140, x141, x142, x_a143, x_n144, x_c145, x_a146, x_n147, x_c148, hc149, h⟩ := h
                    refine WQ_look (fun w => Cells w p104 0 [.int .i64 x140, .int .i64 x141, .int .i64 x142, .slice x_a143 x_n144 x_c145, .slice x_a146 x_n147 x_c148]) rfl (gdY (b := (!r103)) 112 rfl rfl hb139) (fun w hc => (o_loadAgg (vs := [.int .i64 x140, .int .i64 x141, .int .i64 x142, .slice x_a143 x_n144 x_c145, .slice x_a146 x_n147 x_c148]) Try.isAgg36 Try.sizeOf36 rfl hc)) hc149 rfl ?_
                    refine WQ_val rfl (gdY (b := (!r103)) 112 rfl rfl hb139) (o_build (ps := []) (v := .agg #[.int .i64 0, .int .i64 0, .int .i64 0, .slice none 0 0, .slice none 0 0]) partNil (fun w => by kernel_rfl)) rfl ?_
                    refine WQ_call rfl (gdY (b := (!r103)) 112 rfl rfl hb139) (o_call Try.call17 (argCons rfl (argCons rfl argNil)) _) rfl (h.mono ?_)
                    rintro _ w150 ⟨x151, rfl, h⟩
                    refine ⟨⟨⟨⟨⟨trivial, depT (by kernel_rfl)⟩, depT (by kernel_rfl)⟩, depT (by kernel_rfl)⟩, depT (by kernel_rfl)⟩, ?_⟩
                    refine WQ_val rfl (gdY (b := (!r103)) 112 rfl rfl hb139) (o_not rfl) rfl ?_
                    refine WQ_val rfl (gdY (b := (!x137)) 109 rfl rfl hb138) (o_pickT (v := .bool (!x151)) rfl hb139 rfl) rfl ?_
                    refine WQ_val rfl gd0 (o_pickF (v := .bool (!x151)) rfl hb138 rfl) rfl ?_
                    refine WQ_nil ?_
                    refine nrm ?_
                    refine WC_cond (t := (!x151)) rfl (fun hb152 => ?_) (fun hb152 => ?_)
                    · rw [if_pos hb152] at h
                      refine WC_seq ?_
                      refine WC_region ?_
                      refine WL_val gd0 ((o_assign (v := .bool false) rfl) _) rfl ?_
                      refine WL_nil ?_
                      refine nrm ?_
                      refine WC_ret ?_
                      refine rtB ?_
                      refine rtT ?_
                      refine rtT ?_
                      refine rtB ?_
                      refine rtT ?_
                      refine rtE ?_
                      exact gv1 rfl rfl h
                    · rw [if_neg (neT hb152)] at h
                      refine WC_skip ?_
                      refine nrmB ?_
                      refine nrm ?_
                      refine WC_region ?_
                      refine WL_val gd0 ((o_move (v := .int .i64 i76) (by exact e6_75)) _) rfl ?_
                      refine WL_val gd0 ((o_add rfl rfl) _) rfl ?_
                      refine WL_val gd0 ((o_assign (v := .int .i64 (IntKind.i64.wrap (i76 + 1))) rfl) _) rfl ?_
                      refine WL_nil ?_
                      refine nrm ?_
                      obtain ⟨m78, hm78, h⟩ := h
                      exact ⟨m78, hm78, _, rfl, e0_72, e3_73, e4_74, h⟩
                  · rw [if_neg (neT hb139)] at h
                    refine WQ_skip rfl (gdN (b := (!r103)) 112 rfl rfl hb139) rfl ?_
                    refine WQ_skip rfl (gdN (b := (!r103)) 112 rfl rfl hb139) rfl ?_
                    refine WQ_passAct rfl (gdN (b := (!r103)) 112 rfl rfl hb139) rfl (by exact ⟨⟨⟨trivial, depT (by kernel_rfl)⟩, depT (by kernel_rfl)⟩, depT (by kernel_rfl)⟩) ?_
                    refine WQ_skip rfl (gdN (b := (!r103)) 112 rfl rfl hb139) rfl ?_
                    refine WQ_val rfl (gdY (b := (!x137)) 109 rfl rfl hb138) (o_pickF (v := .bool false) rfl hb139 rfl) rfl ?_
                    refine WQ_val rfl gd0 (o_pickF (v := .bool false) rfl hb138 rfl) rfl ?_
                    refine WQ_nil ?_
                    refine nrm ?_
                    refine WC_cond (t := false) rfl (fun hx => by rw [(rfl : false = false)] at hx; cases hx) (fun _ => ?_)
                    refine WC_skip ?_
                    refine nrmB ?_
                    refine nrm ?_
                    refine WC_region ?_
                    refine WL_val gd0 ((o_move (v := .int .i64 i76) (by exact e6_75)) _) rfl ?_
                    refine WL_val gd0 ((o_add rfl rfl) _) rfl ?_
                    refine WL_val gd0 ((o_assign (v := .int .i64 (IntKind.i64.wrap (i76 + 1))) rfl) _) rfl ?_
                    refine WL_nil ?_
                    refine nrm ?_
                    obtain ⟨m78, hm78, h⟩ := h
                    exact ⟨m78, hm78, _, rfl, e0_72, e3_73, e4_74, h⟩
              · rw [if_neg (neT hb113)] at h
                refine WQ_skip rfl (gdN (b := r103) 98 rfl rfl hb113) rfl ?_
                refine WQ_skip rfl (gdN (b := r103) 98 rfl rfl hb113) rfl ?_
                refine WQ_skip rfl (gdN (b := r103) 98 rfl rfl hb113) rfl ?_
                refine WQ_skip rfl (gdN (b := r103) 98 rfl rfl hb113) rfl ?_
                refine WQ_skip rfl (gdN (b := r103) 98 rfl rfl hb113) rfl ?_
                refine WQ_skip rfl (gdN (b := r103) 98 rfl rfl hb113) rfl ?_
                refine WQ_passAct rfl (gdN (b := r103) 98 rfl rfl hb113) rfl (by exact ⟨trivial, depT (by kernel_rfl)⟩) ?_
                refine WQ_skip rfl (gdN (b := r103) 98 rfl rfl hb113) rfl ?_
                refine WQ_val rfl (gdY (b := (!(r103 == x110))) 96 rfl rfl hb112) (o_pickF (v := .bool false) rfl hb113 rfl) rfl ?_
                refine WQ_val rfl gd0 (o_pickF (v := .bool false) rfl hb112 rfl) rfl ?_
                refine WQ_val rfl gd0 (o_move (v := .bool false) rfl) rfl ?_
                refine WQ_val rfl (gdY (b := false) 109 rfl rfl rfl) (o_move (v := .bool r103) rfl) rfl ?_
                refine WQ_val rfl (gdY (b := false) 109 rfl rfl rfl) (o_not rfl) rfl ?_
                refine WQ_val rfl (gdY (b := false) 109 rfl rfl rfl) (o_move (v := .bool (!r103)) rfl) rfl ?_
                refine bsplit (!r103) (fun hb153 => ?_) (fun hb153 => ?_)
                · rw [if_pos hb153] at h
                  obtain ⟨x154, x155, x156, x_a157, x_n158, x_c159, x_a160, x_n161, x_c162, hc163, h⟩ := h
                  refine WQ_look (fun w => Cells w p104 0 [.int .i64 x154, .int .i64 x155, .int .i64 x156, .slice x_a157 x_n158 x_c159, .slice x_a160 x_n161 x_c162]) rfl (gdY (b := (!r103)) 112 rfl rfl hb153) (fun w hc => (o_loadAgg (vs := [.int .i64 x154, .int .i64 x155, .int .i64 x156, .slice x_a157 x_n158 x_c159, .slice x_a160 x_n161 x_c162]) Try.isAgg36 Try.sizeOf36 rfl hc)) hc163 rfl ?_
                  refine WQ_val rfl (gdY (b := (!r103)) 112 rfl rfl hb153) (o_build (ps := []) (v := .agg #[.int .i64 0, .int .i64 0, .int .i64 0, .slice none 0 0, .slice none 0 0]) partNil (fun w => by kernel_rfl)) rfl ?_
                  refine WQ_call rfl (gdY (b := (!r103)) 112 rfl rfl hb153) (o_call Try.call17 (argCons rfl (argCons rfl argNil)) _) rfl (h.mono ?_)
                  rintro _ w164 ⟨x165, rfl, h⟩
                  refine ⟨⟨⟨trivial, depT (by kernel_rfl)⟩, depT (by kernel_rfl)⟩, ?_⟩
                  refine WQ_val rfl (gdY (b := (!r103)) 112 rfl rfl hb153) (o_not rfl) rfl ?_
                  refine WQ_val rfl (gdY (b := false) 109 rfl rfl rfl) (o_pickT (v := .bool (!x165)) rfl hb153 rfl) rfl ?_
                  refine WQ_val rfl gd0 (o_pickF (v := .bool (!x165)) rfl rfl rfl) rfl ?_
                  refine WQ_nil ?_
                  refine nrm ?_
                  refine WC_cond (t := (!x165)) rfl (fun hb166 => ?_) (fun hb166 => ?_)
                  · rw [if_pos hb166] at h
                    refine WC_seq ?_
                    refine WC_region ?_
                    refine WL_val gd0 ((o_assign (v := .bool false) rfl) _) rfl ?_
                    refine WL_nil ?_
                    refine nrm ?_
                    refine WC_ret ?_
                    refine rtB ?_
                    refine rtT ?_
                    refine rtT ?_
                    refine rtB ?_
                    refine rtT ?_
                    refine rtE ?_
                    exact gv1 rfl rfl h
                  · rw [if_neg (neT hb166)] at h
                    refine WC_skip ?_
                    refine nrmB ?_
                    refine nrm ?_
                    refine WC_region ?_
                    refine WL_val gd0 ((o_move (v := .int .i64 i76) (by exact e6_75)) _) rfl ?_
                    refine WL_val gd0 ((o_add rfl rfl) _) rfl ?_
                    refine WL_val gd0 ((o_assign (v := .int .i64 (IntKind.i64.wrap (i76 + 1))) rfl) _) rfl ?_
                    refine WL_nil ?_
                    refine nrm ?_
                    obtain ⟨m78, hm78, h⟩ := h
                    exact ⟨m78, hm78, _, rfl, e0_72, e3_73, e4_74, h⟩
                · rw [if_neg (neT hb153)] at h
                  refine WQ_skip rfl (gdN (b := (!r103)) 112 rfl rfl hb153) rfl ?_
                  refine WQ_skip rfl (gdN (b := (!r103)) 112 rfl rfl hb153) rfl ?_
                  refine WQ_passAct rfl (gdN (b := (!r103)) 112 rfl rfl hb153) rfl (by exact ⟨trivial, depT (by kernel_rfl)⟩) ?_
                  refine WQ_skip rfl (gdN (b := (!r103)) 112 rfl rfl hb153) rfl ?_
                  refine WQ_val rfl (gdY (b := false) 109 rfl rfl rfl) (o_pickF (v := .bool false) rfl hb153 rfl) rfl ?_
                  refine WQ_val rfl gd0 (o_pickF (v := .bool false) rfl rfl rfl) rfl ?_
                  refine WQ_nil ?_
                  refine nrm ?_
                  refine WC_cond (t := false) rfl (fun hx => by rw [(rfl : false = false)] at hx; cases hx) (fun _ => ?_)
                  refine WC_skip ?_
                  refine nrmB ?_
                  refine nrm ?_
                  refine WC_region ?_
                  refine WL_val gd0 ((o_move (v := .int .i64 i76) (by exact e6_75)) _) rfl ?_
                  refine WL_val gd0 ((o_add rfl rfl) _) rfl ?_
                  refine WL_val gd0 ((o_assign (v := .int .i64 (IntKind.i64.wrap (i76 + 1))) rfl) _) rfl ?_
                  refine WL_nil ?_
                  refine nrm ?_
                  obtain ⟨m78, hm78, h⟩ := h
                  exact ⟨m78, hm78, _, rfl, e0_72, e3_73, e4_74, h⟩
        · rw [if_neg (of_decide_eq_false hb79)] at h
          refine WC_exit ?_
          refine exT ?_
          refine exT ?_
          refine exB ?_
          refine nrm ?_
          refine WC_seq ?_
          refine WC_region ?_
          refine WL_call gd0 (o_call Try.call9 argNil _) rfl (h.mono ?_)
          rintro _ w167 ⟨t168, rfl, h⟩
          refine WL_val gd0 ((o_assign (v := .bool t168) rfl) _) rfl ?_
          refine WL_nil ?_
          refine nrm ?_
          refine WC_ret ?_
          refine rtE ?_
          exact gv1 rfl rfl h

def F6_b3 (l_n2 : Nat) (l_a1 : Option Addr) (t91 : Option Addr) (p101 : Addr) (c133 : Option Addr) (p144 : Addr) (i155 : Int) (w156 : World) (k : Value → World → Prop) (nx156 : Int → World → Prop) : Prop :=
  if i155 < (l_n2 : Int) then
  if (Int.tmod i155 2) = 0 then
    ∃ (p162 : Addr), l_a1 = some p162 ∧ (0 : Int) ≤ i155 ∧ i155 < (l_n2 : Int) ∧ ∃ (x164 x165 : Int) (x166 : Bool) (x167 x168 x169 : Int) (x_a170 : Option Addr) (x_n171 x_c172 : Nat) (x_a173 : Option Addr) (x_n174 x_c175 : Nat), Cells w156 (p162.add (i155.toNat * 8)) 0 [.int .u8 x164, .int .i64 x165, .bool x166, .int .i64 x167, .int .i64 x168, .int .i64 x169, .slice x_a170 x_n171 x_c172, .slice x_a173 x_n174 x_c175] ∧ Does Try.prog 10 #[.pointer t91, .pointer (some p101), .agg #[.int .u8 x164, .int .i64 x165, .bool x166, .int .i64 x167, .int .i64 x168, .int .i64 x169, .slice x_a170 x_n171 x_c172, .slice x_a173 x_n174 x_c175]] w156 (fun v w177 => ∃ (x178 : Bool), v = .bool x178 ∧ if (!x178) = true then
      k (.bool false) w177
    else
      if (Int.tmod i155 2) = 1 then
        (0 : Int) ≤ i155 ∧ i155 < (l_n2 : Int) ∧ ∃ (x183 x184 : Int) (x185 : Bool) (x186 x187 x188 : Int) (x_a189 : Option Addr) (x_n190 x_c191 : Nat) (x_a192 : Option Addr) (x_n193 x_c194 : Nat), Cells w177 (p162.add (i155.toNat * 8)) 0 [.int .u8 x183, .int .i64 x184, .bool x185, .int .i64 x186, .int .i64 x187, .int .i64 x188, .slice x_a189 x_n190 x_c191, .slice x_a192 x_n193 x_c194] ∧ Does Try.prog 10 #[.pointer c133, .pointer (some p144), .agg #[.int .u8 x183, .int .i64 x184, .bool x185, .int .i64 x186, .int .i64 x187, .int .i64 x188, .slice x_a189 x_n190 x_c191, .slice x_a192 x_n193 x_c194]] w177 (fun v w196 => ∃ (x197 : Bool), v = .bool x197 ∧ if (!x197) = true then
          k (.bool false) w196
        else
          nx156 (IntKind.i64.wrap (i155 + 1)) w196)
      else
        nx156 (IntKind.i64.wrap (i155 + 1)) w177)
  else
    if (Int.tmod i155 2) = 1 then
      ∃ (p202 : Addr), l_a1 = some p202 ∧ (0 : Int) ≤ i155 ∧ i155 < (l_n2 : Int) ∧ ∃ (x204 x205 : Int) (x206 : Bool) (x207 x208 x209 : Int) (x_a210 : Option Addr) (x_n211 x_c212 : Nat) (x_a213 : Option Addr) (x_n214 x_c215 : Nat), Cells w156 (p202.add (i155.toNat * 8)) 0 [.int .u8 x204, .int .i64 x205, .bool x206, .int .i64 x207, .int .i64 x208, .int .i64 x209, .slice x_a210 x_n211 x_c212, .slice x_a213 x_n214 x_c215] ∧ Does Try.prog 10 #[.pointer c133, .pointer (some p144), .agg #[.int .u8 x204, .int .i64 x205, .bool x206, .int .i64 x207, .int .i64 x208, .int .i64 x209, .slice x_a210 x_n211 x_c212, .slice x_a213 x_n214 x_c215]] w156 (fun v w217 => ∃ (x218 : Bool), v = .bool x218 ∧ if (!x218) = true then
        k (.bool false) w217
      else
        nx156 (IntKind.i64.wrap (i155 + 1)) w217)
    else
      nx156 (IntKind.i64.wrap (i155 + 1)) w156
else
  ∃ (x_a220 : Option Addr) (x_n221 x_c222 : Nat), w156.drew.cell? p101 = some (.slice x_a220 x_n221 x_c222) ∧ Does Try.prog 12 #[.pointer t91] w156.drew (fun v w224 => ∃ (x_a225 : Option Addr) (x_n226 x_c227 : Nat), v = .slice x_a225 x_n226 x_c227 ∧ w224.cell? p101 = some (.slice x_a220 x_n221 x_c222) ∧ Does Try.prog 11 #[.slice x_a225 x_n226 x_c227, .slice x_a220 x_n221 x_c222] w224 (fun v w229 => ∃ (x230 : Bool), v = .bool x230 ∧ if x230 = true then
    ∃ (x_a232 : Option Addr) (x_n233 x_c234 : Nat), w229.cell? p144 = some (.slice x_a232 x_n233 x_c234) ∧ Does Try.prog 12 #[.pointer c133] w229 (fun v w236 => ∃ (x_a237 : Option Addr) (x_n238 x_c239 : Nat), v = .slice x_a237 x_n238 x_c239 ∧ w236.cell? p144 = some (.slice x_a232 x_n233 x_c234) ∧ Does Try.prog 11 #[.slice x_a237 x_n238 x_c239, .slice x_a232 x_n233 x_c234] w236 (fun v w241 => ∃ (x242 : Bool), v = .bool x242 ∧ if x242 = true then
      Does Try.prog 9 #[] w241 (fun v w244 => ∃ (x245 : Bool), v = .bool x245 ∧ k (.bool x245) w244)
    else
      k (.bool false) w241))
  else
    k (.bool false) w229))
def F6_b2 (l_n2 : Nat) (l_a1 : Option Addr) (t91 : Option Addr) (p101 : Addr) (i108 : Int) (w109 : World) (k : Value → World → Prop) (nx109 : Int → World → Prop) : Prop :=
  if i108 < (IntKind.i64.wrap (Int.tdiv (l_n2 : Int) 2)) then
  ∃ (p114 : Addr), l_a1 = some p114 ∧ (0 : Int) ≤ i108 ∧ i108 < (l_n2 : Int) ∧ ∃ (x116 x117 : Int) (x118 : Bool) (x119 x120 x121 : Int) (x_a122 : Option Addr) (x_n123 x_c124 : Nat) (x_a125 : Option Addr) (x_n126 x_c127 : Nat), Cells w109 (p114.add (i108.toNat * 8)) 0 [.int .u8 x116, .int .i64 x117, .bool x118, .int .i64 x119, .int .i64 x120, .int .i64 x121, .slice x_a122 x_n123 x_c124, .slice x_a125 x_n126 x_c127] ∧ Does Try.prog 10 #[.pointer t91, .pointer (some p101), .agg #[.int .u8 x116, .int .i64 x117, .bool x118, .int .i64 x119, .int .i64 x120, .int .i64 x121, .slice x_a122 x_n123 x_c124, .slice x_a125 x_n126 x_c127]] w109 (fun v w129 => ∃ (x130 : Bool), v = .bool x130 ∧ if (!x130) = true then
    k (.bool false) w129
  else
    nx109 (IntKind.i64.wrap (i108 + 1)) w129)
else
  Does Try.prog 18 #[.pointer t91] w109 (fun v w132 => ∃ (c133 : Option Addr), v = .pointer c133 ∧ ∃ (x_a134 : Option Addr) (x_n135 x_c136 : Nat) (x_a137 : Option Addr) (x_n138 x_c139 : Nat) (x_a140 : Option Addr) (x_n141 x_c142 : Nat), Cells w132 p101 0 [.slice x_a134 x_n135 x_c136, .slice x_a137 x_n138 x_c139, .slice x_a140 x_n141 x_c142] ∧ New w132 31 [.slice none 0 0, .slice none 0 0, .slice none 0 0] (fun p144 w145 => PutAll w145 p144 [.slice x_a134 x_n135 x_c136, .slice x_a137 x_n138 x_c139, .slice x_a140 x_n141 x_c142] (fun w146 => if (c133).isNone = true then
    k (.bool false) w146
  else
    LoopP (fun (s : Int) w' nx' => F6_b3 l_n2 l_a1 t91 p101 c133 p144 s w' k (fun x0 w => nx' x0 w)) (IntKind.i64.wrap (Int.tdiv (l_n2 : Int) 2)) w146)))
def F6_j1 (t91 : Option Addr) (l_n2 : Nat) (l_a1 : Option Addr) (t95 : Bool) (w96 : World) (k : Value → World → Prop) : Prop :=
  if t95 = true then
  if (!(t91).isNone) = true then
    Does Try.prog 9 #[] w96 (fun v w99 => ∃ (x100 : Bool), v = .bool x100 ∧ k (.bool x100) w99)
  else
    k (.bool false) w96
else
  New w96 31 [.slice none 0 0, .slice none 0 0, .slice none 0 0] (fun p101 w102 => LoopP (fun (s : Int) w' nx' => F6_b2 l_n2 l_a1 t91 p101 s w' k (fun x0 w => nx' x0 w)) 0 w102)
/-- spacecraft spacecraftlaw37.ActionClones -/
def F6 (l_a1 : Option Addr) (l_n2 : Nat) (l_c3 : Nat) (w4 : World) (k : Value → World → Prop) : Prop :=
  New w4 51 [.bool false, .slice none 0 0] (fun p5 w6 => Does Try.prog 16 #[.pointer none, .int .i64 1] w6 (fun v w7 => ∃ (r8 r9 r10 : Int) (r_a11 : Option Addr) (r_n12 r_c13 : Nat) (r_a14 : Option Addr) (r_n15 r_c16 : Nat) (r17 : Bool), v = .tuple #[.agg #[.int .i64 r8, .int .i64 r9, .int .i64 r10, .slice r_a11 r_n12 r_c13, .slice r_a14 r_n15 r_c16], .bool r17] ∧ New w7 36 [.int .i64 0, .int .i64 0, .int .i64 0, .slice none 0 0, .slice none 0 0] (fun p18 w19 => PutAll w19 p18 [.int .i64 r8, .int .i64 r9, .int .i64 r10, .slice r_a11 r_n12 r_c13, .slice r_a14 r_n15 r_c16] (fun w20 => Does Try.prog 16 #[.pointer (some p5), .int .i64 1] w20 (fun v w22 => ∃ (r23 r24 r25 : Int) (r_a26 : Option Addr) (r_n27 r_c28 : Nat) (r_a29 : Option Addr) (r_n30 r_c31 : Nat) (r32 : Bool), v = .tuple #[.agg #[.int .i64 r23, .int .i64 r24, .int .i64 r25, .slice r_a26 r_n27 r_c28, .slice r_a29 r_n30 r_c31], .bool r32] ∧ New w22 36 [.int .i64 0, .int .i64 0, .int .i64 0, .slice none 0 0, .slice none 0 0] (fun p33 w34 => PutAll w34 p33 [.int .i64 r23, .int .i64 r24, .int .i64 r25, .slice r_a26 r_n27 r_c28, .slice r_a29 r_n30 r_c31] (fun w35 => New w35 36 [.int .i64 0, .int .i64 0, .int .i64 0, .slice none 0 0, .slice none 0 0] (fun p37 w38 => PutAll w38 p37 [.int .i64 0, .int .i64 0, .int .i64 1, .slice none 0 0, .slice none 0 0] (fun w39 => ∃ (x41 x42 x43 : Int) (x_a44 : Option Addr) (x_n45 x_c46 : Nat) (x_a47 : Option Addr) (x_n48 x_c49 : Nat), Cells w39 p37 0 [.int .i64 x41, .int .i64 x42, .int .i64 x43, .slice x_a44 x_n45 x_c46, .slice x_a47 x_n48 x_c49] ∧ Does Try.prog 13 #[.pointer none, .int .i64 1, .agg #[.int .i64 x41, .int .i64 x42, .int .i64 x43, .slice x_a44 x_n45 x_c46, .slice x_a47 x_n48 x_c49]] w39 (fun v w51 => ∃ (x52 : Int), v = .int .i64 x52 ∧ if x52 ≠ 2 then
  k (.bool false) w51
else
  ∃ (x54 x55 x56 : Int) (x_a57 : Option Addr) (x_n58 x_c59 : Nat) (x_a60 : Option Addr) (x_n61 x_c62 : Nat), Cells w51 p37 0 [.int .i64 x54, .int .i64 x55, .int .i64 x56, .slice x_a57 x_n58 x_c59, .slice x_a60 x_n61 x_c62] ∧ Does Try.prog 13 #[.pointer (some p5), .int .i64 1, .agg #[.int .i64 x54, .int .i64 x55, .int .i64 x56, .slice x_a57 x_n58 x_c59, .slice x_a60 x_n61 x_c62]] w51 (fun v w64 => ∃ (x65 : Int), v = .int .i64 x65 ∧ if x65 ≠ 2 then
    k (.bool false) w64
  else
    Does Try.prog 14 #[.pointer none, .int .i64 1] w64 (fun v w67 => ∃ (x68 : Int), v = .int .i64 x68 ∧ if x68 ≠ 2 then
      k (.bool false) w67
    else
      Does Try.prog 15 #[.pointer (some p5), .int .i64 1, .bool true] w67 (fun v w70 => ∃ (x71 : Int), v = .int .i64 x71 ∧ if x71 ≠ 2 then
        k (.bool false) w70
      else
        if r17 = true then
          k (.bool false) w70
        else
          if r32 = true then
            k (.bool false) w70
          else
            Does Try.prog 12 #[.pointer none] w70 (fun v w75 => ∃ (x_a76 : Option Addr) (x_n77 x_c78 : Nat), v = .slice x_a76 x_n77 x_c78 ∧ Does Try.prog 12 #[.pointer (some p5)] w75 (fun v w79 => ∃ (x_a80 : Option Addr) (x_n81 x_c82 : Nat), v = .slice x_a80 x_n81 x_c82 ∧ if (IntKind.i64.wrap ((x_n77 : Int) + (x_n81 : Int))) ≠ 0 then
              k (.bool false) w79
            else
              Does Try.prog 18 #[.pointer none] w79 (fun v w84 => ∃ (x85 : Option Addr), v = .pointer x85 ∧ if (!(x85).isNone) = true then
                k (.bool false) w84
              else
                Does Try.prog 18 #[.pointer (some p5)] w84 (fun v w87 => ∃ (x88 : Option Addr), v = .pointer x88 ∧ if (!(x88).isNone) = true then
                  k (.bool false) w87
                else
                  Does Try.prog 7 #[] w87 (fun v w90 => ∃ (t91 : Option Addr), v = .pointer t91 ∧ Does Try.prog 8 #[.slice l_a1 l_n2 l_c3] w90 (fun v w246 => ∃ (x247 : Bool), v = .bool x247 ∧ if (!x247) = true then
                    F6_j1 t91 l_n2 l_a1 true w246 k
                  else
                    F6_j1 t91 l_n2 l_a1 ((t91).isNone) w246 k)))))))))))))))))))
set_option maxRecDepth 100000 in
set_option maxHeartbeats 2000000 in
theorem w6 (l_a1 : Option Addr) (l_n2 : Nat) (l_c3 : Nat) (w4 : World) (k : Value → World → Prop) (h : F6 l_a1 l_n2 l_c3 w4 k) : Does Try.prog 6 #[.slice l_a1 l_n2 l_c3] w4 k := by
  refine enter 150 Try.func6 rfl rfl rfl ?_
  intro ρ hρ
  have e0 := hρ 0 _ rfl
  unfold F6 at h
  refine WC_seq ?_
  refine WC_region ?_
  refine WL_val gd0 ((o_assign (v := .bool false) rfl) _) rfl ?_
  refine WL_nil ?_
  refine nrm ?_
  refine WC_seq ?_
  refine WC_region ?_
  refine WL_val gd0 ((o_assign (v := .pointer none) rfl) _) rfl ?_
  refine WL_nil ?_
  refine nrm ?_
  refine WC_seq ?_
  refine WC_region ?_
  have h := New.out h
  refine WL_val gd0 (o_alloc (z := .agg #[.bool false, .slice none 0 0]) (cs := [.bool false, .slice none 0 0]) Try.zeroValue51 rfl) rfl ?_
  generalize hp5 : fresh w4 = p5 at h ⊢
  generalize hw6 : push w4 51 [.bool false, .slice none 0 0] = w6 at h ⊢
  try dsimp only at h
  refine WL_nil ?_
  refine nrm ?_
  refine WC_seq ?_
  refine WC_region ?_
  refine WL_val gd0 ((o_move (v := .pointer none) rfl) _) rfl ?_
  refine WL_call gd0 (o_call Try.call16 (argCons rfl (argCons rfl argNil)) _) rfl (h.mono ?_)
  rintro _ w7 ⟨r8, r9, r10, r_a11, r_n12, r_c13, r_a14, r_n15, r_c16, r17, rfl, h⟩
  refine WL_val gd0 ((o_move (v := .tuple #[.agg #[.int .i64 r8, .int .i64 r9, .int .i64 r10, .slice r_a11 r_n12 r_c13, .slice r_a14 r_n15 r_c16], .bool r17]) rfl) _) rfl ?_
  refine WL_val gd0 ((o_extract (vs := [.agg #[.int .i64 r8, .int .i64 r9, .int .i64 r10, .slice r_a11 r_n12 r_c13, .slice r_a14 r_n15 r_c16], .bool r17]) (r := .agg #[.int .i64 r8, .int .i64 r9, .int .i64 r10, .slice r_a11 r_n12 r_c13, .slice r_a14 r_n15 r_c16]) rfl rfl) _) rfl ?_
  refine WL_val gd0 ((o_extract (vs := [.agg #[.int .i64 r8, .int .i64 r9, .int .i64 r10, .slice r_a11 r_n12 r_c13, .slice r_a14 r_n15 r_c16], .bool r17]) (r := .bool r17) rfl rfl) _) rfl ?_
  have h := New.out h
  refine WL_val gd0 (o_alloc (z := .agg #[.int .i64 0, .int .i64 0, .int .i64 0, .slice none 0 0, .slice none 0 0]) (cs := [.int .i64 0, .int .i64 0, .int .i64 0, .slice none 0 0, .slice none 0 0]) Try.zeroValue36 rfl) rfl ?_
  generalize hp18 : fresh w7 = p18 at h ⊢
  generalize hw19 : push w7 36 [.int .i64 0, .int .i64 0, .int .i64 0, .slice none 0 0, .slice none 0 0] = w19 at h ⊢
  try dsimp only at h
  obtain ⟨c21, h⟩ := h
  refine WL_act gd0 (o_storeAgg (vs := [.int .i64 r8, .int .i64 r9, .int .i64 r10, .slice r_a11 r_n12 r_c13, .slice r_a14 r_n15 r_c16]) Try.sizeOf36 rfl rfl rfl c21) ?_
  generalize hw20 : setAll w19 p18 0 [.int .i64 r8, .int .i64 r9, .int .i64 r10, .slice r_a11 r_n12 r_c13, .slice r_a14 r_n15 r_c16] = w20 at h ⊢
  try dsimp only at h
  refine WL_val gd0 ((o_assign (v := .bool r17) rfl) _) rfl ?_
  refine WL_nil ?_
  refine nrm ?_
  refine WC_seq ?_
  refine WC_region ?_
  refine WL_call gd0 (o_call Try.call16 (argCons rfl (argCons rfl argNil)) _) rfl (h.mono ?_)
  rintro _ w22 ⟨r23, r24, r25, r_a26, r_n27, r_c28, r_a29, r_n30, r_c31, r32, rfl, h⟩
  refine WL_val gd0 ((o_move (v := .tuple #[.agg #[.int .i64 r23, .int .i64 r24, .int .i64 r25, .slice r_a26 r_n27 r_c28, .slice r_a29 r_n30 r_c31], .bool r32]) rfl) _) rfl ?_
  refine WL_val gd0 ((o_extract (vs := [.agg #[.int .i64 r23, .int .i64 r24, .int .i64 r25, .slice r_a26 r_n27 r_c28, .slice r_a29 r_n30 r_c31], .bool r32]) (r := .agg #[.int .i64 r23, .int .i64 r24, .int .i64 r25, .slice r_a26 r_n27 r_c28, .slice r_a29 r_n30 r_c31]) rfl rfl) _) rfl ?_
  refine WL_val gd0 ((o_extract (vs := [.agg #[.int .i64 r23, .int .i64 r24, .int .i64 r25, .slice r_a26 r_n27 r_c28, .slice r_a29 r_n30 r_c31], .bool r32]) (r := .bool r32) rfl rfl) _) rfl ?_
  have h := New.out h
  refine WL_val gd0 (o_alloc (z := .agg #[.int .i64 0, .int .i64 0, .int .i64 0, .slice none 0 0, .slice none 0 0]) (cs := [.int .i64 0, .int .i64 0, .int .i64 0, .slice none 0 0, .slice none 0 0]) Try.zeroValue36 rfl) rfl ?_
  generalize hp33 : fresh w22 = p33 at h ⊢
  generalize hw34 : push w22 36 [.int .i64 0, .int .i64 0, .int .i64 0, .slice none 0 0, .slice none 0 0] = w34 at h ⊢
  try dsimp only at h
  obtain ⟨c36, h⟩ := h
  refine WL_act gd0 (o_storeAgg (vs := [.int .i64 r23, .int .i64 r24, .int .i64 r25, .slice r_a26 r_n27 r_c28, .slice r_a29 r_n30 r_c31]) Try.sizeOf36 rfl rfl rfl c36) ?_
  generalize hw35 : setAll w34 p33 0 [.int .i64 r23, .int .i64 r24, .int .i64 r25, .slice r_a26 r_n27 r_c28, .slice r_a29 r_n30 r_c31] = w35 at h ⊢
  try dsimp only at h
  refine WL_val gd0 ((o_assign (v := .bool r32) rfl) _) rfl ?_
  refine WL_nil ?_
  refine nrm ?_
  refine WC_seq ?_
  refine WC_region ?_
  refine WL_val gd0 ((o_build (ps := [(2, .int .i64 1)]) (v := .agg #[.int .i64 0, .int .i64 0, .int .i64 1, .slice none 0 0, .slice none 0 0]) (partCons rfl partNil) (fun w => by kernel_rfl)) _) rfl ?_
  have h := New.out h
  refine WL_val gd0 (o_alloc (z := .agg #[.int .i64 0, .int .i64 0, .int .i64 0, .slice none 0 0, .slice none 0 0]) (cs := [.int .i64 0, .int .i64 0, .int .i64 0, .slice none 0 0, .slice none 0 0]) Try.zeroValue36 rfl) rfl ?_
  generalize hp37 : fresh w35 = p37 at h ⊢
  generalize hw38 : push w35 36 [.int .i64 0, .int .i64 0, .int .i64 0, .slice none 0 0, .slice none 0 0] = w38 at h ⊢
  try dsimp only at h
  obtain ⟨c40, h⟩ := h
  refine WL_act gd0 (o_storeAgg (vs := [.int .i64 0, .int .i64 0, .int .i64 1, .slice none 0 0, .slice none 0 0]) Try.sizeOf36 rfl rfl rfl c40) ?_
  generalize hw39 : setAll w38 p37 0 [.int .i64 0, .int .i64 0, .int .i64 1, .slice none 0 0, .slice none 0 0] = w39 at h ⊢
  try dsimp only at h
  refine WL_nil ?_
  refine nrm ?_
  refine WC_seq ?_
  refine WC_seq ?_
  refine WC_region ?_
  refine WL_val gd0 ((o_move (v := .pointer none) rfl) _) rfl ?_
  obtain ⟨x41, x42, x43, x_a44, x_n45, x_c46, x_a47, x_n48, x_c49, hc50, h⟩ := h
  refine WL_val gd0 (o_loadAgg (vs := [.int .i64 x41, .int .i64 x42, .int .i64 x43, .slice x_a44 x_n45 x_c46, .slice x_a47 x_n48 x_c49]) Try.isAgg36 Try.sizeOf36 rfl hc50) rfl ?_
  refine WL_call gd0 (o_call Try.call13 (argCons rfl (argCons rfl (argCons rfl argNil))) _) rfl (h.mono ?_)
  rintro _ w51 ⟨x52, rfl, h⟩
  refine WL_val gd0 ((o_neq rfl rfl) _) rfl ?_
  refine WL_val gd0 ((o_move (v := .bool (decide (x52 ≠ 2))) rfl) _) rfl ?_
  refine bsplit (decide (x52 ≠ 2)) (fun hb53 => ?_) (fun hb53 => ?_)
  · rw [if_pos (of_decide_eq_true hb53)] at h
    refine WL_skip (gdN (b := (decide (x52 ≠ 2))) 31 rfl rfl hb53) rfl ?_
    refine WL_skip (gdN (b := (decide (x52 ≠ 2))) 31 rfl rfl hb53) rfl ?_
    refine WL_skip (gdN (b := (decide (x52 ≠ 2))) 31 rfl rfl hb53) rfl ?_
    refine WL_val gd0 ((o_pickT (v := .bool true) rfl hb53 rfl) _) rfl ?_
    refine WL_val gd0 ((o_move (v := .bool true) rfl) _) rfl ?_
    refine WL_skip (gdN (b := true) 36 rfl rfl rfl) rfl ?_
    refine WL_skip (gdN (b := true) 36 rfl rfl rfl) rfl ?_
    refine WL_skip (gdN (b := true) 36 rfl rfl rfl) rfl ?_
    refine WL_val gd0 ((o_pickT (v := .bool true) rfl rfl rfl) _) rfl ?_
    refine WL_val gd0 ((o_move (v := .bool true) rfl) _) rfl ?_
    refine WL_skip (gdN (b := true) 41 rfl rfl rfl) rfl ?_
    refine WL_skip (gdN (b := true) 41 rfl rfl rfl) rfl ?_
    refine WL_val gd0 ((o_pickT (v := .bool true) rfl rfl rfl) _) rfl ?_
    refine WL_val gd0 ((o_move (v := .bool true) rfl) _) rfl ?_
    refine WL_skip (gdN (b := true) 45 rfl rfl rfl) rfl ?_
    refine WL_val gd0 ((o_pickT (v := .bool true) rfl rfl rfl) _) rfl ?_
    refine WL_val gd0 ((o_move (v := .bool true) rfl) _) rfl ?_
    refine WL_skip (gdN (b := true) 48 rfl rfl rfl) rfl ?_
    refine WL_val gd0 ((o_pickT (v := .bool true) rfl rfl rfl) _) rfl ?_
    refine WL_val gd0 ((o_move (v := .bool true) rfl) _) rfl ?_
    refine WL_skip (gdN (b := true) 51 rfl rfl rfl) rfl ?_
    refine WL_skip (gdN (b := true) 51 rfl rfl rfl) rfl ?_
    refine WL_skip (gdN (b := true) 51 rfl rfl rfl) rfl ?_
    refine WL_skip (gdN (b := true) 51 rfl rfl rfl) rfl ?_
    refine WL_skip (gdN (b := true) 51 rfl rfl rfl) rfl ?_
    refine WL_skip (gdN (b := true) 51 rfl rfl rfl) rfl ?_
    refine WL_skip (gdN (b := true) 51 rfl rfl rfl) rfl ?_
    refine WL_val gd0 ((o_pickT (v := .bool true) rfl rfl rfl) _) rfl ?_
    refine WL_val gd0 ((o_move (v := .bool true) rfl) _) rfl ?_
    refine WL_skip (gdN (b := true) 60 rfl rfl rfl) rfl ?_
    refine WL_skip (gdN (b := true) 60 rfl rfl rfl) rfl ?_
    refine WL_skip (gdN (b := true) 60 rfl rfl rfl) rfl ?_
    refine WL_val gd0 ((o_pickT (v := .bool true) rfl rfl rfl) _) rfl ?_
    refine WL_val gd0 ((o_move (v := .bool true) rfl) _) rfl ?_
    refine WL_skip (gdN (b := true) 65 rfl rfl rfl) rfl ?_
    refine WL_skip (gdN (b := true) 65 rfl rfl rfl) rfl ?_
    refine WL_val gd0 ((o_pickT (v := .bool true) rfl rfl rfl) _) rfl ?_
    refine WL_nil ?_
    refine nrm ?_
    refine WC_cond (t := true) rfl (fun _ => ?_) (fun hx => by rw [(rfl : true = true)] at hx; cases hx)
    refine WC_seq ?_
    refine WC_region ?_
    refine WL_val gd0 ((o_assign (v := .bool false) rfl) _) rfl ?_
    refine WL_nil ?_
    refine nrm ?_
    refine WC_ret ?_
    refine rtT ?_
    refine rtE ?_
    exact gv1 rfl rfl h
  · rw [if_neg (of_decide_eq_false hb53)] at h
    obtain ⟨x54, x55, x56, x_a57, x_n58, x_c59, x_a60, x_n61, x_c62, hc63, h⟩ := h
    refine WL_val (gdY (b := (decide (x52 ≠ 2))) 31 rfl rfl hb53) (o_loadAgg (vs := [.int .i64 x54, .int .i64 x55, .int .i64 x56, .slice x_a57 x_n58 x_c59, .slice x_a60 x_n61 x_c62]) Try.isAgg36 Try.sizeOf36 rfl hc63) rfl ?_
    refine WL_call (gdY (b := (decide (x52 ≠ 2))) 31 rfl rfl hb53) (o_call Try.call13 (argCons rfl (argCons rfl (argCons rfl argNil))) _) rfl (h.mono ?_)
    rintro _ w64 ⟨x65, rfl, h⟩
    refine WL_val (gdY (b := (decide (x52 ≠ 2))) 31 rfl rfl hb53) ((o_neq rfl rfl) _) rfl ?_
    refine WL_val gd0 ((o_pickF (v := .bool (decide (x65 ≠ 2))) rfl hb53 rfl) _) rfl ?_
    refine WL_val gd0 ((o_move (v := .bool (decide (x65 ≠ 2))) rfl) _) rfl ?_
    refine bsplit (decide (x65 ≠ 2)) (fun hb66 => ?_) (fun hb66 => ?_)
    · rw [if_pos (of_decide_eq_true hb66)] at h
      refine WL_skip (gdN (b := (decide (x65 ≠ 2))) 36 rfl rfl hb66) rfl ?_
      refine WL_skip (gdN (b := (decide (x65 ≠ 2))) 36 rfl rfl hb66) rfl ?_
      refine WL_skip (gdN (b := (decide (x65 ≠ 2))) 36 rfl rfl hb66) rfl ?_
      refine WL_val gd0 ((o_pickT (v := .bool true) rfl hb66 rfl) _) rfl ?_
      refine WL_val gd0 ((o_move (v := .bool true) rfl) _) rfl ?_
      refine WL_skip (gdN (b := true) 41 rfl rfl rfl) rfl ?_
      refine WL_skip (gdN (b := true) 41 rfl rfl rfl) rfl ?_
      refine WL_val gd0 ((o_pickT (v := .bool true) rfl rfl rfl) _) rfl ?_
      refine WL_val gd0 ((o_move (v := .bool true) rfl) _) rfl ?_
      refine WL_skip (gdN (b := true) 45 rfl rfl rfl) rfl ?_
      refine WL_val gd0 ((o_pickT (v := .bool true) rfl rfl rfl) _) rfl ?_
      refine WL_val gd0 ((o_move (v := .bool true) rfl) _) rfl ?_
      refine WL_skip (gdN (b := true) 48 rfl rfl rfl) rfl ?_
      refine WL_val gd0 ((o_pickT (v := .bool true) rfl rfl rfl) _) rfl ?_
      refine WL_val gd0 ((o_move (v := .bool true) rfl) _) rfl ?_
      refine WL_skip (gdN (b := true) 51 rfl rfl rfl) rfl ?_
      refine WL_skip (gdN (b := true) 51 rfl rfl rfl) rfl ?_
      refine WL_skip (gdN (b := true) 51 rfl rfl rfl) rfl ?_
      refine WL_skip (gdN (b := true) 51 rfl rfl rfl) rfl ?_
      refine WL_skip (gdN (b := true) 51 rfl rfl rfl) rfl ?_
      refine WL_skip (gdN (b := true) 51 rfl rfl rfl) rfl ?_
      refine WL_skip (gdN (b := true) 51 rfl rfl rfl) rfl ?_
      refine WL_val gd0 ((o_pickT (v := .bool true) rfl rfl rfl) _) rfl ?_
      refine WL_val gd0 ((o_move (v := .bool true) rfl) _) rfl ?_
      refine WL_skip (gdN (b := true) 60 rfl rfl rfl) rfl ?_
      refine WL_skip (gdN (b := true) 60 rfl rfl rfl) rfl ?_
      refine WL_skip (gdN (b := true) 60 rfl rfl rfl) rfl ?_
      refine WL_val gd0 ((o_pickT (v := .bool true) rfl rfl rfl) _) rfl ?_
      refine WL_val gd0 ((o_move (v := .bool true) rfl) _) rfl ?_
      refine WL_skip (gdN (b := true) 65 rfl rfl rfl) rfl ?_
      refine WL_skip (gdN (b := true) 65 rfl rfl rfl) rfl ?_
      refine WL_val gd0 ((o_pickT (v := .bool true) rfl rfl rfl) _) rfl ?_
      refine WL_nil ?_
      refine nrm ?_
      refine WC_cond (t := true) rfl (fun _ => ?_) (fun hx => by rw [(rfl : true = true)] at hx; cases hx)
      refine WC_seq ?_
      refine WC_region ?_
      refine WL_val gd0 ((o_assign (v := .bool false) rfl) _) rfl ?_
      refine WL_nil ?_
      refine nrm ?_
      refine WC_ret ?_
      refine rtT ?_
      refine rtE ?_
      exact gv1 rfl rfl h
    · rw [if_neg (of_decide_eq_false hb66)] at h
      refine WL_val (gdY (b := (decide (x65 ≠ 2))) 36 rfl rfl hb66) ((o_move (v := .pointer none) rfl) _) rfl ?_
      refine WL_call (gdY (b := (decide (x65 ≠ 2))) 36 rfl rfl hb66) (o_call Try.call14 (argCons rfl (argCons rfl argNil)) _) rfl (h.mono ?_)
      rintro _ w67 ⟨x68, rfl, h⟩
      refine WL_val (gdY (b := (decide (x65 ≠ 2))) 36 rfl rfl hb66) ((o_neq rfl rfl) _) rfl ?_
      refine WL_val gd0 ((o_pickF (v := .bool (decide (x68 ≠ 2))) rfl hb66 rfl) _) rfl ?_
      refine WL_val gd0 ((o_move (v := .bool (decide (x68 ≠ 2))) rfl) _) rfl ?_
      refine bsplit (decide (x68 ≠ 2)) (fun hb69 => ?_) (fun hb69 => ?_)
      · rw [if_pos (of_decide_eq_true hb69)] at h
        refine WL_skip (gdN (b := (decide (x68 ≠ 2))) 41 rfl rfl hb69) rfl ?_
        refine WL_skip (gdN (b := (decide (x68 ≠ 2))) 41 rfl rfl hb69) rfl ?_
        refine WL_val gd0 ((o_pickT (v := .bool true) rfl hb69 rfl) _) rfl ?_
        refine WL_val gd0 ((o_move (v := .bool true) rfl) _) rfl ?_
        refine WL_skip (gdN (b := true) 45 rfl rfl rfl) rfl ?_
        refine WL_val gd0 ((o_pickT (v := .bool true) rfl rfl rfl) _) rfl ?_
        refine WL_val gd0 ((o_move (v := .bool true) rfl) _) rfl ?_
        refine WL_skip (gdN (b := true) 48 rfl rfl rfl) rfl ?_
        refine WL_val gd0 ((o_pickT (v := .bool true) rfl rfl rfl) _) rfl ?_
        refine WL_val gd0 ((o_move (v := .bool true) rfl) _) rfl ?_
        refine WL_skip (gdN (b := true) 51 rfl rfl rfl) rfl ?_
        refine WL_skip (gdN (b := true) 51 rfl rfl rfl) rfl ?_
        refine WL_skip (gdN (b := true) 51 rfl rfl rfl) rfl ?_
        refine WL_skip (gdN (b := true) 51 rfl rfl rfl) rfl ?_
        refine WL_skip (gdN (b := true) 51 rfl rfl rfl) rfl ?_
        refine WL_skip (gdN (b := true) 51 rfl rfl rfl) rfl ?_
        refine WL_skip (gdN (b := true) 51 rfl rfl rfl) rfl ?_
        refine WL_val gd0 ((o_pickT (v := .bool true) rfl rfl rfl) _) rfl ?_
        refine WL_val gd0 ((o_move (v := .bool true) rfl) _) rfl ?_
        refine WL_skip (gdN (b := true) 60 rfl rfl rfl) rfl ?_
        refine WL_skip (gdN (b := true) 60 rfl rfl rfl) rfl ?_
        refine WL_skip (gdN (b := true) 60 rfl rfl rfl) rfl ?_
        refine WL_val gd0 ((o_pickT (v := .bool true) rfl rfl rfl) _) rfl ?_
        refine WL_val gd0 ((o_move (v := .bool true) rfl) _) rfl ?_
        refine WL_skip (gdN (b := true) 65 rfl rfl rfl) rfl ?_
        refine WL_skip (gdN (b := true) 65 rfl rfl rfl) rfl ?_
        refine WL_val gd0 ((o_pickT (v := .bool true) rfl rfl rfl) _) rfl ?_
        refine WL_nil ?_
        refine nrm ?_
        refine WC_cond (t := true) rfl (fun _ => ?_) (fun hx => by rw [(rfl : true = true)] at hx; cases hx)
        refine WC_seq ?_
        refine WC_region ?_
        refine WL_val gd0 ((o_assign (v := .bool false) rfl) _) rfl ?_
        refine WL_nil ?_
        refine nrm ?_
        refine WC_ret ?_
        refine rtT ?_
        refine rtE ?_
        exact gv1 rfl rfl h
      · rw [if_neg (of_decide_eq_false hb69)] at h
        refine WL_call (gdY (b := (decide (x68 ≠ 2))) 41 rfl rfl hb69) (o_call Try.call15 (argCons rfl (argCons rfl (argCons rfl argNil))) _) rfl (h.mono ?_)
        rintro _ w70 ⟨x71, rfl, h⟩
        refine WL_val (gdY (b := (decide (x68 ≠ 2))) 41 rfl rfl hb69) ((o_neq rfl rfl) _) rfl ?_
        refine WL_val gd0 ((o_pickF (v := .bool (decide (x71 ≠ 2))) rfl hb69 rfl) _) rfl ?_
        refine WL_val gd0 ((o_move (v := .bool (decide (x71 ≠ 2))) rfl) _) rfl ?_
        refine bsplit (decide (x71 ≠ 2)) (fun hb72 => ?_) (fun hb72 => ?_)
        · rw [if_pos (of_decide_eq_true hb72)] at h
          refine WL_skip (gdN (b := (decide (x71 ≠ 2))) 45 rfl rfl hb72) rfl ?_
          refine WL_val gd0 ((o_pickT (v := .bool true) rfl hb72 rfl) _) rfl ?_
          refine WL_val gd0 ((o_move (v := .bool true) rfl) _) rfl ?_
          refine WL_skip (gdN (b := true) 48 rfl rfl rfl) rfl ?_
          refine WL_val gd0 ((o_pickT (v := .bool true) rfl rfl rfl) _) rfl ?_
          refine WL_val gd0 ((o_move (v := .bool true) rfl) _) rfl ?_
          refine WL_skip (gdN (b := true) 51 rfl rfl rfl) rfl ?_
          refine WL_skip (gdN (b := true) 51 rfl rfl rfl) rfl ?_
          refine WL_skip (gdN (b := true) 51 rfl rfl rfl) rfl ?_
          refine WL_skip (gdN (b := true) 51 rfl rfl rfl) rfl ?_
          refine WL_skip (gdN (b := true) 51 rfl rfl rfl) rfl ?_
          refine WL_skip (gdN (b := true) 51 rfl rfl rfl) rfl ?_
          refine WL_skip (gdN (b := true) 51 rfl rfl rfl) rfl ?_
          refine WL_val gd0 ((o_pickT (v := .bool true) rfl rfl rfl) _) rfl ?_
          refine WL_val gd0 ((o_move (v := .bool true) rfl) _) rfl ?_
          refine WL_skip (gdN (b := true) 60 rfl rfl rfl) rfl ?_
          refine WL_skip (gdN (b := true) 60 rfl rfl rfl) rfl ?_
          refine WL_skip (gdN (b := true) 60 rfl rfl rfl) rfl ?_
          refine WL_val gd0 ((o_pickT (v := .bool true) rfl rfl rfl) _) rfl ?_
          refine WL_val gd0 ((o_move (v := .bool true) rfl) _) rfl ?_
          refine WL_skip (gdN (b := true) 65 rfl rfl rfl) rfl ?_
          refine WL_skip (gdN (b := true) 65 rfl rfl rfl) rfl ?_
          refine WL_val gd0 ((o_pickT (v := .bool true) rfl rfl rfl) _) rfl ?_
          refine WL_nil ?_
          refine nrm ?_
          refine WC_cond (t := true) rfl (fun _ => ?_) (fun hx => by rw [(rfl : true = true)] at hx; cases hx)
          refine WC_seq ?_
          refine WC_region ?_
          refine WL_val gd0 ((o_assign (v := .bool false) rfl) _) rfl ?_
          refine WL_nil ?_
          refine nrm ?_
          refine WC_ret ?_
          refine rtT ?_
          refine rtE ?_
          exact gv1 rfl rfl h
        · rw [if_neg (of_decide_eq_false hb72)] at h
          refine WL_val (gdY (b := (decide (x71 ≠ 2))) 45 rfl rfl hb72) ((o_move (v := .bool r17) rfl) _) rfl ?_
          refine WL_val gd0 ((o_pickF (v := .bool r17) rfl hb72 rfl) _) rfl ?_
          refine WL_val gd0 ((o_move (v := .bool r17) rfl) _) rfl ?_
          refine bsplit r17 (fun hb73 => ?_) (fun hb73 => ?_)
          · rw [if_pos hb73] at h
            refine WL_skip (gdN (b := r17) 48 rfl rfl hb73) rfl ?_
            refine WL_val gd0 ((o_pickT (v := .bool true) rfl hb73 rfl) _) rfl ?_
            refine WL_val gd0 ((o_move (v := .bool true) rfl) _) rfl ?_
            refine WL_skip (gdN (b := true) 51 rfl rfl rfl) rfl ?_
            refine WL_skip (gdN (b := true) 51 rfl rfl rfl) rfl ?_
            refine WL_skip (gdN (b := true) 51 rfl rfl rfl) rfl ?_
            refine WL_skip (gdN (b := true) 51 rfl rfl rfl) rfl ?_
            refine WL_skip (gdN (b := true) 51 rfl rfl rfl) rfl ?_
            refine WL_skip (gdN (b := true) 51 rfl rfl rfl) rfl ?_
            refine WL_skip (gdN (b := true) 51 rfl rfl rfl) rfl ?_
            refine WL_val gd0 ((o_pickT (v := .bool true) rfl rfl rfl) _) rfl ?_
            refine WL_val gd0 ((o_move (v := .bool true) rfl) _) rfl ?_
            refine WL_skip (gdN (b := true) 60 rfl rfl rfl) rfl ?_
            refine WL_skip (gdN (b := true) 60 rfl rfl rfl) rfl ?_
            refine WL_skip (gdN (b := true) 60 rfl rfl rfl) rfl ?_
            refine WL_val gd0 ((o_pickT (v := .bool true) rfl rfl rfl) _) rfl ?_
            refine WL_val gd0 ((o_move (v := .bool true) rfl) _) rfl ?_
            refine WL_skip (gdN (b := true) 65 rfl rfl rfl) rfl ?_
            refine WL_skip (gdN (b := true) 65 rfl rfl rfl) rfl ?_
            refine WL_val gd0 ((o_pickT (v := .bool true) rfl rfl rfl) _) rfl ?_
            refine WL_nil ?_
            refine nrm ?_
            refine WC_cond (t := true) rfl (fun _ => ?_) (fun hx => by rw [(rfl : true = true)] at hx; cases hx)
            refine WC_seq ?_
            refine WC_region ?_
            refine WL_val gd0 ((o_assign (v := .bool false) rfl) _) rfl ?_
            refine WL_nil ?_
            refine nrm ?_
            refine WC_ret ?_
            refine rtT ?_
            refine rtE ?_
            exact gv1 rfl rfl h
          · rw [if_neg (neT hb73)] at h
            refine WL_val (gdY (b := r17) 48 rfl rfl hb73) ((o_move (v := .bool r32) rfl) _) rfl ?_
            refine WL_val gd0 ((o_pickF (v := .bool r32) rfl hb73 rfl) _) rfl ?_
            refine WL_val gd0 ((o_move (v := .bool r32) rfl) _) rfl ?_
            refine bsplit r32 (fun hb74 => ?_) (fun hb74 => ?_)
            · rw [if_pos hb74] at h
              refine WL_skip (gdN (b := r32) 51 rfl rfl hb74) rfl ?_
              refine WL_skip (gdN (b := r32) 51 rfl rfl hb74) rfl ?_
              refine WL_skip (gdN (b := r32) 51 rfl rfl hb74) rfl ?_
              refine WL_skip (gdN (b := r32) 51 rfl rfl hb74) rfl ?_
              refine WL_skip (gdN (b := r32) 51 rfl rfl hb74) rfl ?_
              refine WL_skip (gdN (b := r32) 51 rfl rfl hb74) rfl ?_
              refine WL_skip (gdN (b := r32) 51 rfl rfl hb74) rfl ?_
              refine WL_val gd0 ((o_pickT (v := .bool true) rfl hb74 rfl) _) rfl ?_
              refine WL_val gd0 ((o_move (v := .bool true) rfl) _) rfl ?_
              refine WL_skip (gdN (b := true) 60 rfl rfl rfl) rfl ?_
              refine WL_skip (gdN (b := true) 60 rfl rfl rfl) rfl ?_
              refine WL_skip (gdN (b := true) 60 rfl rfl rfl) rfl ?_
              refine WL_val gd0 ((o_pickT (v := .bool true) rfl rfl rfl) _) rfl ?_
              refine WL_val gd0 ((o_move (v := .bool true) rfl) _) rfl ?_
              refine WL_skip (gdN (b := true) 65 rfl rfl rfl) rfl ?_
              refine WL_skip (gdN (b := true) 65 rfl rfl rfl) rfl ?_
              refine WL_val gd0 ((o_pickT (v := .bool true) rfl rfl rfl) _) rfl ?_
              refine WL_nil ?_
              refine nrm ?_
              refine WC_cond (t := true) rfl (fun _ => ?_) (fun hx => by rw [(rfl : true = true)] at hx; cases hx)
              refine WC_seq ?_
              refine WC_region ?_
              refine WL_val gd0 ((o_assign (v := .bool false) rfl) _) rfl ?_
              refine WL_nil ?_
              refine nrm ?_
              refine WC_ret ?_
              refine rtT ?_
              refine rtE ?_
              exact gv1 rfl rfl h
            · rw [if_neg (neT hb74)] at h
              refine WL_val (gdY (b := r32) 51 rfl rfl hb74) ((o_move (v := .pointer none) rfl) _) rfl ?_
              refine WL_call (gdY (b := r32) 51 rfl rfl hb74) (o_call Try.call12 (argCons rfl argNil) _) rfl (h.mono ?_)
              rintro _ w75 ⟨x_a76, x_n77, x_c78, rfl, h⟩
              refine WL_val (gdY (b := r32) 51 rfl rfl hb74) ((o_len Try.underlying27 rfl) _) rfl ?_
              refine WL_call (gdY (b := r32) 51 rfl rfl hb74) (o_call Try.call12 (argCons rfl argNil) _) rfl (h.mono ?_)
              rintro _ w79 ⟨x_a80, x_n81, x_c82, rfl, h⟩
              refine WL_val (gdY (b := r32) 51 rfl rfl hb74) ((o_len Try.underlying27 rfl) _) rfl ?_
              refine WL_val (gdY (b := r32) 51 rfl rfl hb74) ((o_add rfl rfl) _) rfl ?_
              refine WL_val (gdY (b := r32) 51 rfl rfl hb74) ((o_neq rfl rfl) _) rfl ?_
              refine WL_val gd0 ((o_pickF (v := .bool (decide ((IntKind.i64.wrap ((x_n77 : Int) + (x_n81 : Int))) ≠ 0))) rfl hb74 rfl) _) rfl ?_
              refine WL_val gd0 ((o_move (v := .bool (decide ((IntKind.i64.wrap ((x_n77 : Int) + (x_n81 : Int))) ≠ 0))) rfl) _) rfl ?_
              refine bsplit (decide ((IntKind.i64.wrap ((x_n77 : Int) + (x_n81 : Int))) ≠ 0)) (fun hb83 => ?_) (fun hb83 => ?_)
              · rw [if_pos (of_decide_eq_true hb83)] at h
                refine WL_skip (gdN (b := (decide ((IntKind.i64.wrap ((x_n77 : Int) + (x_n81 : Int))) ≠ 0))) 60 rfl rfl hb83) rfl ?_
                refine WL_skip (gdN (b := (decide ((IntKind.i64.wrap ((x_n77 : Int) + (x_n81 : Int))) ≠ 0))) 60 rfl rfl hb83) rfl ?_
                refine WL_skip (gdN (b := (decide ((IntKind.i64.wrap ((x_n77 : Int) + (x_n81 : Int))) ≠ 0))) 60 rfl rfl hb83) rfl ?_
                refine WL_val gd0 ((o_pickT (v := .bool true) rfl hb83 rfl) _) rfl ?_
                refine WL_val gd0 ((o_move (v := .bool true) rfl) _) rfl ?_
                refine WL_skip (gdN (b := true) 65 rfl rfl rfl) rfl ?_
                refine WL_skip (gdN (b := true) 65 rfl rfl rfl) rfl ?_
                refine WL_val gd0 ((o_pickT (v := .bool true) rfl rfl rfl) _) rfl ?_
                refine WL_nil ?_
                refine nrm ?_
                refine WC_cond (t := true) rfl (fun _ => ?_) (fun hx => by rw [(rfl : true = true)] at hx; cases hx)
                refine WC_seq ?_
                refine WC_region ?_
                refine WL_val gd0 ((o_assign (v := .bool false) rfl) _) rfl ?_
                refine WL_nil ?_
                refine nrm ?_
                refine WC_ret ?_
                refine rtT ?_
                refine rtE ?_
                exact gv1 rfl rfl h
              · rw [if_neg (of_decide_eq_false hb83)] at h
                refine WL_val (gdY (b := (decide ((IntKind.i64.wrap ((x_n77 : Int) + (x_n81 : Int))) ≠ 0))) 60 rfl rfl hb83) ((o_move (v := .pointer none) rfl) _) rfl ?_
                refine WL_call (gdY (b := (decide ((IntKind.i64.wrap ((x_n77 : Int) + (x_n81 : Int))) ≠ 0))) 60 rfl rfl hb83) (o_call Try.call18 (argCons rfl argNil) _) rfl (h.mono ?_)
                rintro _ w84 ⟨x85, rfl, h⟩
                refine WL_val (gdY (b := (decide ((IntKind.i64.wrap ((x_n77 : Int) + (x_n81 : Int))) ≠ 0))) 60 rfl rfl hb83) ((o_neqPtrNil Try.underlying23 rfl rfl) _) rfl ?_
                refine WL_val gd0 ((o_pickF (v := .bool (!(x85).isNone)) rfl hb83 rfl) _) rfl ?_
                refine WL_val gd0 ((o_move (v := .bool (!(x85).isNone)) rfl) _) rfl ?_
                refine bsplit (!(x85).isNone) (fun hb86 => ?_) (fun hb86 => ?_)
                · rw [if_pos hb86] at h
                  refine WL_skip (gdN (b := (!(x85).isNone)) 65 rfl rfl hb86) rfl ?_
                  refine WL_skip (gdN (b := (!(x85).isNone)) 65 rfl rfl hb86) rfl ?_
                  refine WL_val gd0 ((o_pickT (v := .bool true) rfl hb86 rfl) _) rfl ?_
                  refine WL_nil ?_
                  refine nrm ?_
                  refine WC_cond (t := true) rfl (fun _ => ?_) (fun hx => by rw [(rfl : true = true)] at hx; cases hx)
                  refine WC_seq ?_
                  refine WC_region ?_
                  refine WL_val gd0 ((o_assign (v := .bool false) rfl) _) rfl ?_
                  refine WL_nil ?_
                  refine nrm ?_
                  refine WC_ret ?_
                  refine rtT ?_
                  refine rtE ?_
                  exact gv1 rfl rfl h
                · rw [if_neg (neT hb86)] at h
                  refine WL_call (gdY (b := (!(x85).isNone)) 65 rfl rfl hb86) (o_call Try.call18 (argCons rfl argNil) _) rfl (h.mono ?_)
                  rintro _ w87 ⟨x88, rfl, h⟩
                  refine WL_val (gdY (b := (!(x85).isNone)) 65 rfl rfl hb86) ((o_neqPtrNil Try.underlying23 rfl rfl) _) rfl ?_
                  refine WL_val gd0 ((o_pickF (v := .bool (!(x88).isNone)) rfl hb86 rfl) _) rfl ?_
                  refine WL_nil ?_
                  refine nrm ?_
                  refine WC_cond (t := (!(x88).isNone)) rfl (fun hb89 => ?_) (fun hb89 => ?_)
                  · rw [if_pos hb89] at h
                    refine WC_seq ?_
                    refine WC_region ?_
                    refine WL_val gd0 ((o_assign (v := .bool false) rfl) _) rfl ?_
                    refine WL_nil ?_
                    refine nrm ?_
                    refine WC_ret ?_
                    refine rtT ?_
                    refine rtE ?_
                    exact gv1 rfl rfl h
                  · rw [if_neg (neT hb89)] at h
                    refine WC_skip ?_
                    refine nrm ?_
                    refine WC_seq ?_
                    refine WC_region ?_
                    refine WL_call gd0 (o_call Try.call7 argNil _) rfl (h.mono ?_)
                    rintro _ w90 ⟨t91, rfl, h⟩
                    refine WL_val gd0 ((o_assign (v := .pointer t91) rfl) _) rfl ?_
                    refine WL_nil ?_
                    refine nrm ?_
                    refine WC_seq ?_
                    refine WC_cut (fun ρ w' => ∃ (t95 : Bool), ρ 76 = .bool t95 ∧ ρ 0 = .slice l_a1 l_n2 l_c3 ∧ ρ 10 = .pointer t91 ∧ F6_j1 t91 l_n2 l_a1 t95 w' k) ?_ ?_
                    · refine WC_region ?_
                      refine WL_val gd0 ((o_move (v := .slice l_a1 l_n2 l_c3) (by exact e0)) _) rfl ?_
                      refine WL_call gd0 (o_call Try.call8 (argCons rfl argNil) _) rfl (h.mono ?_)
                      rintro _ w246 ⟨x247, rfl, h⟩
                      refine WL_val gd0 ((o_not rfl) _) rfl ?_
                      refine WL_val gd0 ((o_move (v := .bool (!x247)) rfl) _) rfl ?_
                      refine bsplit (!x247) (fun hb248 => ?_) (fun hb248 => ?_)
                      · rw [if_pos hb248] at h
                        refine WL_skip (gdN (b := (!x247)) 73 rfl rfl hb248) rfl ?_
                        refine WL_skip (gdN (b := (!x247)) 73 rfl rfl hb248) rfl ?_
                        refine WL_val gd0 ((o_pickT (v := .bool true) rfl hb248 rfl) _) rfl ?_
                        refine WL_nil ?_
                        refine nrm ?_
                        exact ⟨_, rfl, e0, rfl, h⟩
                      · rw [if_neg (neT hb248)] at h
                        refine WL_val (gdY (b := (!x247)) 73 rfl rfl hb248) ((o_move (v := .pointer t91) rfl) _) rfl ?_
                        refine WL_val (gdY (b := (!x247)) 73 rfl rfl hb248) ((o_eqlPtrNil Try.underlying23 rfl rfl) _) rfl ?_
                        refine WL_val gd0 ((o_pickF (v := .bool ((t91).isNone)) rfl hb248 rfl) _) rfl ?_
                        refine WL_nil ?_
                        refine nrm ?_
                        exact ⟨_, rfl, e0, rfl, h⟩
                    · rintro ρ w96 ⟨t95, e76_94, e0_92, e10_93, h⟩
                      unfold F6_j1 at h
                      refine WC_cond (t := t95) (by exact e76_94) (fun hb97 => ?_) (fun hb97 => ?_)
                      · rw [if_pos hb97] at h
                        refine WC_seq ?_
                        refine WC_region ?_
                        refine WL_val gd0 ((o_move (v := .pointer t91) (by exact e10_93)) _) rfl ?_
                        refine WL_val gd0 ((o_neqPtrNil Try.underlying23 rfl rfl) _) rfl ?_
                        refine WL_val gd0 ((o_move (v := .bool (!(t91).isNone)) rfl) _) rfl ?_
                        refine bsplit (!(t91).isNone) (fun hb98 => ?_) (fun hb98 => ?_)
                        · rw [if_pos hb98] at h
                          refine WL_call (gdY (b := (!(t91).isNone)) 79 rfl rfl hb98) (o_call Try.call9 argNil _) rfl (h.mono ?_)
                          rintro _ w99 ⟨x100, rfl, h⟩
                          refine WL_val gd0 ((o_pickT (v := .bool x100) rfl hb98 rfl) _) rfl ?_
                          refine WL_val gd0 ((o_assign (v := .bool x100) rfl) _) rfl ?_
                          refine WL_nil ?_
                          refine nrm ?_
                          refine WC_ret ?_
                          refine rtT ?_
                          refine rtE ?_
                          exact gv1 rfl rfl h
                        · rw [if_neg (neT hb98)] at h
                          refine WL_skip (gdN (b := (!(t91).isNone)) 79 rfl rfl hb98) rfl ?_
                          refine WL_val gd0 ((o_pickF (v := .bool false) rfl hb98 rfl) _) rfl ?_
                          refine WL_val gd0 ((o_assign (v := .bool false) rfl) _) rfl ?_
                          refine WL_nil ?_
                          refine nrm ?_
                          refine WC_ret ?_
                          refine rtT ?_
                          refine rtE ?_
                          exact gv1 rfl rfl h
                      · rw [if_neg (neT hb97)] at h
                        refine WC_skip ?_
                        refine nrm ?_
                        refine WC_seq ?_
                        refine WC_region ?_
                        have h := New.out h
                        refine WL_val gd0 (o_alloc (z := .agg #[.slice none 0 0, .slice none 0 0, .slice none 0 0]) (cs := [.slice none 0 0, .slice none 0 0, .slice none 0 0]) Try.zeroValue31 rfl) rfl ?_
                        generalize hp101 : fresh w96 = p101 at h ⊢
                        generalize hw102 : push w96 31 [.slice none 0 0, .slice none 0 0, .slice none 0 0] = w102 at h ⊢
                        try dsimp only at h
                        refine WL_nil ?_
                        refine nrm ?_
                        refine WC_seq ?_
                        refine WC_region ?_
                        refine WL_val gd0 ((o_move (v := .slice l_a1 l_n2 l_c3) (by exact e0_92)) _) rfl ?_
                        refine WL_val gd0 ((o_len Try.underlying22 rfl) _) rfl ?_
                        refine WL_val gd0 ((fun w => o_quo rfl rfl w (by decide)) _) rfl ?_
                        refine WL_val gd0 ((o_assign (v := .int .i64 (IntKind.i64.wrap (Int.tdiv (l_n2 : Int) 2))) rfl) _) rfl ?_
                        refine WL_nil ?_
                        refine nrm ?_
                        refine WC_seq ?_
                        refine WC_seq ?_
                        refine WC_region ?_
                        refine WL_val gd0 ((o_assign (v := .int .i64 0) rfl) _) rfl ?_
                        refine WL_nil ?_
                        refine nrm ?_
                        refine WC_block ?_
                        obtain ⟨J109, ⟨n109, h0⟩, hr109⟩ := h
                        refine WC_loop (fun n ρ w' => ∃ (i108 : Int), ρ 13 = .int .i64 i108 ∧ ρ 0 = .slice l_a1 l_n2 l_c3 ∧ ρ 10 = .pointer t91 ∧ ρ 11 = .pointer (some p101) ∧ ρ 12 = .int .i64 (IntKind.i64.wrap (Int.tdiv (l_n2 : Int) 2)) ∧ J109 n i108 w') ⟨n109, _, rfl, e0_92, e10_93, rfl, rfl, h0⟩ ?_
                        rintro n109 ρ w109 ⟨i108, e13_107, e0_103, e10_104, e11_105, e12_106, h⟩
                        have h : F6_b2 l_n2 l_a1 t91 p101 i108 w109 k (fun x0 w => ∃ m, m < n109 ∧ J109 m x0 w) := hr109 n109 i108 w109 h
                        unfold F6_b2 at h
                        refine WC_seq ?_
                        refine WC_seq ?_
                        refine WC_region ?_
                        refine WL_val gd0 ((o_move (v := .int .i64 i108) (by exact e13_107)) _) rfl ?_
                        refine WL_val gd0 ((o_move (v := .int .i64 (IntKind.i64.wrap (Int.tdiv (l_n2 : Int) 2))) (by exact e12_106)) _) rfl ?_
                        refine WL_val gd0 ((o_lss rfl rfl) _) rfl ?_
                        refine WL_nil ?_
                        refine nrm ?_
                        refine WC_cond (t := (decide (i108 < (IntKind.i64.wrap (Int.tdiv (l_n2 : Int) 2))))) rfl (fun hb111 => ?_) (fun hb111 => ?_)
                        · rw [if_pos (of_decide_eq_true hb111)] at h
                          refine WC_skip ?_
                          refine nrm ?_
                          refine WC_seq ?_
                          refine WC_block ?_
                          refine WC_seq ?_
                          refine WC_region ?_
                          refine WL_val gd0 ((o_move (v := .pointer t91) (by exact e10_104)) _) rfl ?_
                          refine WL_val gd0 ((o_move (v := .slice l_a1 l_n2 l_c3) (by exact e0_103)) _) rfl ?_
                          refine WL_val gd0 ((o_move (v := .int .i64 i108) (by exact e13_107)) _) rfl ?_
                          obtain ⟨p114, q115, h⟩ := h
                          obtain ⟨l112, u113, h⟩ := h
                          refine WL_val gd0 ((o_indexAddr Try.underlying22 Try.sizeOf38 (by exact (congrArg (fun z => Value.slice z l_n2 l_c3) q115)) rfl l112 u113) _) rfl ?_
                          obtain ⟨x116, x117, x118, x119, x120, x121, x_a122, x_n123, x_c124, x_a125, x_n126, x_c127, hc128, h⟩ := h
                          refine WL_val gd0 (o_loadAgg (vs := [.int .u8 x116, .int .i64 x117, .bool x118, .int .i64 x119, .int .i64 x120, .int .i64 x121, .slice x_a122 x_n123 x_c124, .slice x_a125 x_n126 x_c127]) Try.isAgg38 Try.sizeOf38 rfl hc128) rfl ?_
                          refine WL_call gd0 (o_call Try.call10 (argCons rfl (argCons (by exact e11_105) (argCons rfl argNil))) _) rfl (h.mono ?_)
                          rintro _ w129 ⟨x130, rfl, h⟩
                          refine WL_val gd0 ((o_not rfl) _) rfl ?_
                          refine WL_nil ?_
                          refine nrm ?_
                          refine WC_cond (t := (!x130)) rfl (fun hb131 => ?_) (fun hb131 => ?_)
                          · rw [if_pos hb131] at h
                            refine WC_seq ?_
                            refine WC_region ?_
                            refine WL_val gd0 ((o_assign (v := .bool false) rfl) _) rfl ?_
                            refine WL_nil ?_
                            refine nrm ?_
                            refine WC_ret ?_
                            refine rtB ?_
                            refine rtT ?_
                            refine rtT ?_
                            refine rtB ?_
                            refine rtT ?_
                            refine rtE ?_
                            exact gv1 rfl rfl h
                          · rw [if_neg (neT hb131)] at h
                            refine WC_skip ?_
                            refine nrmB ?_
                            refine nrm ?_
                            refine WC_region ?_
                            refine WL_val gd0 ((o_move (v := .int .i64 i108) (by exact e13_107)) _) rfl ?_
                            refine WL_val gd0 ((o_add rfl rfl) _) rfl ?_
                            refine WL_val gd0 ((o_assign (v := .int .i64 (IntKind.i64.wrap (i108 + 1))) rfl) _) rfl ?_
                            refine WL_nil ?_
                            refine nrm ?_
                            obtain ⟨m110, hm110, h⟩ := h
                            exact ⟨m110, hm110, _, rfl, e0_103, e10_104, e11_105, e12_106, h⟩
                        · rw [if_neg (of_decide_eq_false hb111)] at h
                          refine WC_exit ?_
                          refine exT ?_
                          refine exT ?_
                          refine exB ?_
                          refine nrm ?_
                          refine WC_seq ?_
                          refine WC_region ?_
                          refine WL_val gd0 ((o_move (v := .pointer t91) (by exact e10_104)) _) rfl ?_
                          refine WL_call gd0 (o_call Try.call18 (argCons rfl argNil) _) rfl (h.mono ?_)
                          rintro _ w132 ⟨c133, rfl, h⟩
                          refine WL_val gd0 ((o_assign (v := .pointer c133) rfl) _) rfl ?_
                          refine WL_nil ?_
                          refine nrm ?_
                          refine WC_seq ?_
                          refine WC_region ?_
                          obtain ⟨x_a134, x_n135, x_c136, x_a137, x_n138, x_c139, x_a140, x_n141, x_c142, hc143, h⟩ := h
                          refine WL_val gd0 (o_loadAgg (vs := [.slice x_a134 x_n135 x_c136, .slice x_a137 x_n138 x_c139, .slice x_a140 x_n141 x_c142]) Try.isAgg31 Try.sizeOf31 (by exact e11_105) hc143) rfl ?_
                          have h := New.out h
                          refine WL_val gd0 (o_alloc (z := .agg #[.slice none 0 0, .slice none 0 0, .slice none 0 0]) (cs := [.slice none 0 0, .slice none 0 0, .slice none 0 0]) Try.zeroValue31 rfl) rfl ?_
                          generalize hp144 : fresh w132 = p144 at h ⊢
                          generalize hw145 : push w132 31 [.slice none 0 0, .slice none 0 0, .slice none 0 0] = w145 at h ⊢
                          try dsimp only at h
                          obtain ⟨c147, h⟩ := h
                          refine WL_act gd0 (o_storeAgg (vs := [.slice x_a134 x_n135 x_c136, .slice x_a137 x_n138 x_c139, .slice x_a140 x_n141 x_c142]) Try.sizeOf31 rfl rfl rfl c147) ?_
                          generalize hw146 : setAll w145 p144 0 [.slice x_a134 x_n135 x_c136, .slice x_a137 x_n138 x_c139, .slice x_a140 x_n141 x_c142] = w146 at h ⊢
                          try dsimp only at h
                          refine WL_nil ?_
                          refine nrm ?_
                          refine WC_seq ?_
                          refine WC_seq ?_
                          refine WC_region ?_
                          refine WL_val gd0 ((o_move (v := .pointer c133) rfl) _) rfl ?_
                          refine WL_val gd0 ((o_eqlPtrNil Try.underlying23 rfl rfl) _) rfl ?_
                          refine WL_nil ?_
                          refine nrm ?_
                          refine WC_cond (t := ((c133).isNone)) rfl (fun hb148 => ?_) (fun hb148 => ?_)
                          · rw [if_pos hb148] at h
                            refine WC_seq ?_
                            refine WC_region ?_
                            refine WL_val gd0 ((o_assign (v := .bool false) rfl) _) rfl ?_
                            refine WL_nil ?_
                            refine nrm ?_
                            refine WC_ret ?_
                            refine rtT ?_
                            refine rtE ?_
                            exact gv1 rfl rfl h
                          · rw [if_neg (neT hb148)] at h
                            refine WC_skip ?_
                            refine nrm ?_
                            refine WC_seq ?_
                            refine WC_seq ?_
                            refine WC_region ?_
                            refine WL_val gd0 ((o_move (v := .int .i64 (IntKind.i64.wrap (Int.tdiv (l_n2 : Int) 2))) (by exact e12_106)) _) rfl ?_
                            refine WL_val gd0 ((o_assign (v := .int .i64 (IntKind.i64.wrap (Int.tdiv (l_n2 : Int) 2))) rfl) _) rfl ?_
                            refine WL_nil ?_
                            refine nrm ?_
                            refine WC_block ?_
                            obtain ⟨J156, ⟨n156, h0⟩, hr156⟩ := h
                            refine WC_loop (fun n ρ w' => ∃ (i155 : Int), ρ 16 = .int .i64 i155 ∧ ρ 0 = .slice l_a1 l_n2 l_c3 ∧ ρ 10 = .pointer t91 ∧ ρ 11 = .pointer (some p101) ∧ ρ 14 = .pointer c133 ∧ ρ 15 = .pointer (some p144) ∧ J156 n i155 w') ⟨n156, _, rfl, e0_103, e10_104, e11_105, rfl, rfl, h0⟩ ?_
                            rintro n156 ρ w156 ⟨i155, e16_154, e0_149, e10_150, e11_151, e14_152, e15_153, h⟩
                            have h : F6_b3 l_n2 l_a1 t91 p101 c133 p144 i155 w156 k (fun x0 w => ∃ m, m < n156 ∧ J156 m x0 w) := hr156 n156 i155 w156 h
                            unfold F6_b3 at h
                            refine WC_seq ?_
                            refine WC_seq ?_
                            refine WC_region ?_
                            refine WL_val gd0 ((o_move (v := .int .i64 i155) (by exact e16_154)) _) rfl ?_
                            refine WL_val gd0 ((o_move (v := .slice l_a1 l_n2 l_c3) (by exact e0_149)) _) rfl ?_
                            refine WL_val gd0 ((o_len Try.underlying22 rfl) _) rfl ?_
                            refine WL_val gd0 ((o_lss rfl rfl) _) rfl ?_
                            refine WL_nil ?_
                            refine nrm ?_
                            refine WC_cond (t := (decide (i155 < (l_n2 : Int)))) rfl (fun hb158 => ?_) (fun hb158 => ?_)
                            · rw [if_pos (of_decide_eq_true hb158)] at h
                              refine WC_skip ?_
                              refine nrm ?_
                              refine WC_seq ?_
                              refine WC_block ?_
                              refine WC_seq ?_
                              refine WC_region ?_
                              refine WL_val gd0 ((o_move (v := .int .i64 i155) (by exact e16_154)) _) rfl ?_
                              refine WL_val gd0 ((fun w => o_rem rfl rfl w (by decide)) _) rfl ?_
                              refine WL_val gd0 ((o_eql rfl rfl) _) rfl ?_
                              refine WL_val gd0 ((o_move (v := .bool (decide ((Int.tmod i155 2) = 0))) rfl) _) rfl ?_
                              refine bsplit (decide ((Int.tmod i155 2) = 0)) (fun hb159 => ?_) (fun hb159 => ?_)
                              · rw [if_pos (of_decide_eq_true hb159)] at h
                                refine WL_val (gdY (b := (decide ((Int.tmod i155 2) = 0))) 112 rfl rfl hb159) ((o_move (v := .pointer t91) (by exact e10_150)) _) rfl ?_
                                refine WL_val (gdY (b := (decide ((Int.tmod i155 2) = 0))) 112 rfl rfl hb159) ((o_move (v := .slice l_a1 l_n2 l_c3) (by exact e0_149)) _) rfl ?_
                                refine WL_val (gdY (b := (decide ((Int.tmod i155 2) = 0))) 112 rfl rfl hb159) ((o_move (v := .int .i64 i155) (by exact e16_154)) _) rfl ?_
                                obtain ⟨p162, q163, h⟩ := h
                                obtain ⟨l160, u161, h⟩ := h
                                refine WL_val (gdY (b := (decide ((Int.tmod i155 2) = 0))) 112 rfl rfl hb159) ((o_indexAddr Try.underlying22 Try.sizeOf38 (by exact (congrArg (fun z => Value.slice z l_n2 l_c3) q163)) rfl l160 u161) _) rfl ?_
                                obtain ⟨x164, x165, x166, x167, x168, x169, x_a170, x_n171, x_c172, x_a173, x_n174, x_c175, hc176, h⟩ := h
                                refine WL_val (gdY (b := (decide ((Int.tmod i155 2) = 0))) 112 rfl rfl hb159) (o_loadAgg (vs := [.int .u8 x164, .int .i64 x165, .bool x166, .int .i64 x167, .int .i64 x168, .int .i64 x169, .slice x_a170 x_n171 x_c172, .slice x_a173 x_n174 x_c175]) Try.isAgg38 Try.sizeOf38 rfl hc176) rfl ?_
                                refine WL_call (gdY (b := (decide ((Int.tmod i155 2) = 0))) 112 rfl rfl hb159) (o_call Try.call10 (argCons rfl (argCons (by exact e11_151) (argCons rfl argNil))) _) rfl (h.mono ?_)
                                rintro _ w177 ⟨x178, rfl, h⟩
                                refine WL_val (gdY (b := (decide ((Int.tmod i155 2) = 0))) 112 rfl rfl hb159) ((o_not rfl) _) rfl ?_
                                refine WL_val gd0 ((o_pickT (v := .bool (!x178)) rfl hb159 rfl) _) rfl ?_
                                refine WL_val gd0 ((o_move (v := .bool (!x178)) rfl) _) rfl ?_
                                refine bsplit (!x178) (fun hb179 => ?_) (fun hb179 => ?_)
                                · rw [if_pos hb179] at h
                                  refine WL_skip (gdN (b := (!x178)) 121 rfl rfl hb179) rfl ?_
                                  refine WL_skip (gdN (b := (!x178)) 121 rfl rfl hb179) rfl ?_
                                  refine WL_skip (gdN (b := (!x178)) 121 rfl rfl hb179) rfl ?_
                                  refine WL_skip (gdN (b := (!x178)) 121 rfl rfl hb179) rfl ?_
                                  refine WL_skip (gdU 125 rfl rfl) rfl ?_
                                  refine WL_skip (gdU 125 rfl rfl) rfl ?_
                                  refine WL_skip (gdU 125 rfl rfl) rfl ?_
                                  refine WL_skip (gdU 125 rfl rfl) rfl ?_
                                  refine WL_skip (gdU 125 rfl rfl) rfl ?_
                                  refine WL_skip (gdU 125 rfl rfl) rfl ?_
                                  refine WL_skip (gdU 125 rfl rfl) rfl ?_
                                  refine WL_skip (gdN (b := (!x178)) 121 rfl rfl hb179) rfl ?_
                                  refine WL_val gd0 ((o_pickT (v := .bool true) rfl hb179 rfl) _) rfl ?_
                                  refine WL_nil ?_
                                  refine nrm ?_
                                  refine WC_cond (t := true) rfl (fun _ => ?_) (fun hx => by rw [(rfl : true = true)] at hx; cases hx)
                                  refine WC_seq ?_
                                  refine WC_region ?_
                                  refine WL_val gd0 ((o_assign (v := .bool false) rfl) _) rfl ?_
                                  refine WL_nil ?_
                                  refine nrm ?_
                                  refine WC_ret ?_
                                  refine rtB ?_
                                  refine rtT ?_
                                  refine rtT ?_
                                  refine rtB ?_
                                  refine rtT ?_
                                  refine rtE ?_
                                  exact gv1 rfl rfl h
                                · rw [if_neg (neT hb179)] at h
                                  refine WL_val (gdY (b := (!x178)) 121 rfl rfl hb179) ((o_move (v := .int .i64 i155) (by exact e16_154)) _) rfl ?_
                                  refine WL_val (gdY (b := (!x178)) 121 rfl rfl hb179) ((fun w => o_rem rfl rfl w (by decide)) _) rfl ?_
                                  refine WL_val (gdY (b := (!x178)) 121 rfl rfl hb179) ((o_eql rfl rfl) _) rfl ?_
                                  refine WL_val (gdY (b := (!x178)) 121 rfl rfl hb179) ((o_move (v := .bool (decide ((Int.tmod i155 2) = 1))) rfl) _) rfl ?_
                                  refine bsplit (decide ((Int.tmod i155 2) = 1)) (fun hb180 => ?_) (fun hb180 => ?_)
                                  · rw [if_pos (of_decide_eq_true hb180)] at h
                                    refine WL_val (gdY (b := (decide ((Int.tmod i155 2) = 1))) 125 rfl rfl hb180) ((o_move (v := .pointer c133) (by exact e14_152)) _) rfl ?_
                                    refine WL_val (gdY (b := (decide ((Int.tmod i155 2) = 1))) 125 rfl rfl hb180) ((o_move (v := .slice l_a1 l_n2 l_c3) (by exact e0_149)) _) rfl ?_
                                    refine WL_val (gdY (b := (decide ((Int.tmod i155 2) = 1))) 125 rfl rfl hb180) ((o_move (v := .int .i64 i155) (by exact e16_154)) _) rfl ?_
                                    obtain ⟨l181, u182, h⟩ := h
                                    refine WL_val (gdY (b := (decide ((Int.tmod i155 2) = 1))) 125 rfl rfl hb180) ((o_indexAddr Try.underlying22 Try.sizeOf38 (by exact (congrArg (fun z => Value.slice z l_n2 l_c3) q163)) rfl l181 u182) _) rfl ?_
                                    obtain ⟨x183, x184, x185, x186, x187, x188, x_a189, x_n190, x_c191, x_a192, x_n193, x_c194, hc195, h⟩ := h
                                    refine WL_val (gdY (b := (decide ((Int.tmod i155 2) = 1))) 125 rfl rfl hb180) (o_loadAgg (vs := [.int .u8 x183, .int .i64 x184, .bool x185, .int .i64 x186, .int .i64 x187, .int .i64 x188, .slice x_a189 x_n190 x_c191, .slice x_a192 x_n193 x_c194]) Try.isAgg38 Try.sizeOf38 rfl hc195) rfl ?_
                                    refine WL_call (gdY (b := (decide ((Int.tmod i155 2) = 1))) 125 rfl rfl hb180) (o_call Try.call10 (argCons rfl (argCons (by exact e15_153) (argCons rfl argNil))) _) rfl (h.mono ?_)
                                    rintro _ w196 ⟨x197, rfl, h⟩
                                    refine WL_val (gdY (b := (decide ((Int.tmod i155 2) = 1))) 125 rfl rfl hb180) ((o_not rfl) _) rfl ?_
                                    refine WL_val (gdY (b := (!x178)) 121 rfl rfl hb179) ((o_pickT (v := .bool (!x197)) rfl hb180 rfl) _) rfl ?_
                                    refine WL_val gd0 ((o_pickF (v := .bool (!x197)) rfl hb179 rfl) _) rfl ?_
                                    refine WL_nil ?_
                                    refine nrm ?_
                                    refine WC_cond (t := (!x197)) rfl (fun hb198 => ?_) (fun hb198 => ?_)
                                    · rw [if_pos hb198] at h
                                      refine WC_seq ?_
                                      refine WC_region ?_
                                      refine WL_val gd0 ((o_assign (v := .bool false) rfl) _) rfl ?_
                                      refine WL_nil ?_
                                      refine nrm ?_
                                      refine WC_ret ?_
                                      refine rtB ?_
                                      refine rtT ?_
                                      refine rtT ?_
                                      refine rtB ?_
                                      refine rtT ?_
                                      refine rtE ?_
                                      exact gv1 rfl rfl h
                                    · rw [if_neg (neT hb198)] at h
                                      refine WC_skip ?_
                                      refine nrmB ?_
                                      refine nrm ?_
                                      refine WC_region ?_
                                      refine WL_val gd0 ((o_move (v := .int .i64 i155) (by exact e16_154)) _) rfl ?_
                                      refine WL_val gd0 ((o_add rfl rfl) _) rfl ?_
                                      refine WL_val gd0 ((o_assign (v := .int .i64 (IntKind.i64.wrap (i155 + 1))) rfl) _) rfl ?_
                                      refine WL_nil ?_
                                      refine nrm ?_
                                      obtain ⟨m157, hm157, h⟩ := h
                                      exact ⟨m157, hm157, _, rfl, e0_149, e10_150, e11_151, e14_152, e15_153, h⟩
                                  · rw [if_neg (of_decide_eq_false hb180)] at h
                                    refine WL_skip (gdN (b := (decide ((Int.tmod i155 2) = 1))) 125 rfl rfl hb180) rfl ?_
                                    refine WL_skip (gdN (b := (decide ((Int.tmod i155 2) = 1))) 125 rfl rfl hb180) rfl ?_
                                    refine WL_skip (gdN (b := (decide ((Int.tmod i155 2) = 1))) 125 rfl rfl hb180) rfl ?_
                                    refine WL_skip (gdN (b := (decide ((Int.tmod i155 2) = 1))) 125 rfl rfl hb180) rfl ?_
                                    refine WL_skip (gdN (b := (decide ((Int.tmod i155 2) = 1))) 125 rfl rfl hb180) rfl ?_
                                    refine WL_skip (gdN (b := (decide ((Int.tmod i155 2) = 1))) 125 rfl rfl hb180) rfl ?_
                                    refine WL_skip (gdN (b := (decide ((Int.tmod i155 2) = 1))) 125 rfl rfl hb180) rfl ?_
                                    refine WL_val (gdY (b := (!x178)) 121 rfl rfl hb179) ((o_pickF (v := .bool false) rfl hb180 rfl) _) rfl ?_
                                    refine WL_val gd0 ((o_pickF (v := .bool false) rfl hb179 rfl) _) rfl ?_
                                    refine WL_nil ?_
                                    refine nrm ?_
                                    refine WC_cond (t := false) rfl (fun hx => by rw [(rfl : false = false)] at hx; cases hx) (fun _ => ?_)
                                    refine WC_skip ?_
                                    refine nrmB ?_
                                    refine nrm ?_
                                    refine WC_region ?_
                                    refine WL_val gd0 ((o_move (v := .int .i64 i155) (by exact e16_154)) _) rfl ?_
                                    refine WL_val gd0 ((o_add rfl rfl) _) rfl ?_
                                    refine WL_val gd0 ((o_assign (v := .int .i64 (IntKind.i64.wrap (i155 + 1))) rfl) _) rfl ?_
                                    refine WL_nil ?_
                                    refine nrm ?_
                                    obtain ⟨m157, hm157, h⟩ := h
                                    exact ⟨m157, hm157, _, rfl, e0_149, e10_150, e11_151, e14_152, e15_153, h⟩
                              · rw [if_neg (of_decide_eq_false hb159)] at h
                                refine WL_skip (gdN (b := (decide ((Int.tmod i155 2) = 0))) 112 rfl rfl hb159) rfl ?_
                                refine WL_skip (gdN (b := (decide ((Int.tmod i155 2) = 0))) 112 rfl rfl hb159) rfl ?_
                                refine WL_skip (gdN (b := (decide ((Int.tmod i155 2) = 0))) 112 rfl rfl hb159) rfl ?_
                                refine WL_skip (gdN (b := (decide ((Int.tmod i155 2) = 0))) 112 rfl rfl hb159) rfl ?_
                                refine WL_skip (gdN (b := (decide ((Int.tmod i155 2) = 0))) 112 rfl rfl hb159) rfl ?_
                                refine WL_skip (gdN (b := (decide ((Int.tmod i155 2) = 0))) 112 rfl rfl hb159) rfl ?_
                                refine WL_skip (gdN (b := (decide ((Int.tmod i155 2) = 0))) 112 rfl rfl hb159) rfl ?_
                                refine WL_val gd0 ((o_pickF (v := .bool false) rfl hb159 rfl) _) rfl ?_
                                refine WL_val gd0 ((o_move (v := .bool false) rfl) _) rfl ?_
                                refine WL_val (gdY (b := false) 121 rfl rfl rfl) ((o_move (v := .int .i64 i155) (by exact e16_154)) _) rfl ?_
                                refine WL_val (gdY (b := false) 121 rfl rfl rfl) ((fun w => o_rem rfl rfl w (by decide)) _) rfl ?_
                                refine WL_val (gdY (b := false) 121 rfl rfl rfl) ((o_eql rfl rfl) _) rfl ?_
                                refine WL_val (gdY (b := false) 121 rfl rfl rfl) ((o_move (v := .bool (decide ((Int.tmod i155 2) = 1))) rfl) _) rfl ?_
                                refine bsplit (decide ((Int.tmod i155 2) = 1)) (fun hb199 => ?_) (fun hb199 => ?_)
                                · rw [if_pos (of_decide_eq_true hb199)] at h
                                  refine WL_val (gdY (b := (decide ((Int.tmod i155 2) = 1))) 125 rfl rfl hb199) ((o_move (v := .pointer c133) (by exact e14_152)) _) rfl ?_
                                  refine WL_val (gdY (b := (decide ((Int.tmod i155 2) = 1))) 125 rfl rfl hb199) ((o_move (v := .slice l_a1 l_n2 l_c3) (by exact e0_149)) _) rfl ?_
                                  refine WL_val (gdY (b := (decide ((Int.tmod i155 2) = 1))) 125 rfl rfl hb199) ((o_move (v := .int .i64 i155) (by exact e16_154)) _) rfl ?_
                                  obtain ⟨p202, q203, h⟩ := h
                                  obtain ⟨l200, u201, h⟩ := h
                                  refine WL_val (gdY (b := (decide ((Int.tmod i155 2) = 1))) 125 rfl rfl hb199) ((o_indexAddr Try.underlying22 Try.sizeOf38 (by exact (congrArg (fun z => Value.slice z l_n2 l_c3) q203)) rfl l200 u201) _) rfl ?_
                                  obtain ⟨x204, x205, x206, x207, x208, x209, x_a210, x_n211, x_c212, x_a213, x_n214, x_c215, hc216, h⟩ := h
                                  refine WL_val (gdY (b := (decide ((Int.tmod i155 2) = 1))) 125 rfl rfl hb199) (o_loadAgg (vs := [.int .u8 x204, .int .i64 x205, .bool x206, .int .i64 x207, .int .i64 x208, .int .i64 x209, .slice x_a210 x_n211 x_c212, .slice x_a213 x_n214 x_c215]) Try.isAgg38 Try.sizeOf38 rfl hc216) rfl ?_
                                  refine WL_call (gdY (b := (decide ((Int.tmod i155 2) = 1))) 125 rfl rfl hb199) (o_call Try.call10 (argCons rfl (argCons (by exact e15_153) (argCons rfl argNil))) _) rfl (h.mono ?_)
                                  rintro _ w217 ⟨x218, rfl, h⟩
                                  refine WL_val (gdY (b := (decide ((Int.tmod i155 2) = 1))) 125 rfl rfl hb199) ((o_not rfl) _) rfl ?_
                                  refine WL_val (gdY (b := false) 121 rfl rfl rfl) ((o_pickT (v := .bool (!x218)) rfl hb199 rfl) _) rfl ?_
                                  refine WL_val gd0 ((o_pickF (v := .bool (!x218)) rfl rfl rfl) _) rfl ?_
                                  refine WL_nil ?_
                                  refine nrm ?_
                                  refine WC_cond (t := (!x218)) rfl (fun hb219 => ?_) (fun hb219 => ?_)
                                  · rw [if_pos hb219] at h
                                    refine WC_seq ?_
                                    refine WC_region ?_
                                    refine WL_val gd0 ((o_assign (v := .bool false) rfl) _) rfl ?_
                                    refine WL_nil ?_
                                    refine nrm ?_
                                    refine WC_ret ?_
                                    refine rtB ?_
                                    refine rtT ?_
                                    refine rtT ?_
                                    refine rtB ?_
                                    refine rtT ?_
                                    refine rtE ?_
                                    exact gv1 rfl rfl h
                                  · rw [if_neg (neT hb219)] at h
                                    refine WC_skip ?_
                                    refine nrmB ?_
                                    refine nrm ?_
                                    refine WC_region ?_
                                    refine WL_val gd0 ((o_move (v := .int .i64 i155) (by exact e16_154)) _) rfl ?_
                                    refine WL_val gd0 ((o_add rfl rfl) _) rfl ?_
                                    refine WL_val gd0 ((o_assign (v := .int .i64 (IntKind.i64.wrap (i155 + 1))) rfl) _) rfl ?_
                                    refine WL_nil ?_
                                    refine nrm ?_
                                    obtain ⟨m157, hm157, h⟩ := h
                                    exact ⟨m157, hm157, _, rfl, e0_149, e10_150, e11_151, e14_152, e15_153, h⟩
                                · rw [if_neg (of_decide_eq_false hb199)] at h
                                  refine WL_skip (gdN (b := (decide ((Int.tmod i155 2) = 1))) 125 rfl rfl hb199) rfl ?_
                                  refine WL_skip (gdN (b := (decide ((Int.tmod i155 2) = 1))) 125 rfl rfl hb199) rfl ?_
                                  refine WL_skip (gdN (b := (decide ((Int.tmod i155 2) = 1))) 125 rfl rfl hb199) rfl ?_
                                  refine WL_skip (gdN (b := (decide ((Int.tmod i155 2) = 1))) 125 rfl rfl hb199) rfl ?_
                                  refine WL_skip (gdN (b := (decide ((Int.tmod i155 2) = 1))) 125 rfl rfl hb199) rfl ?_
                                  refine WL_skip (gdN (b := (decide ((Int.tmod i155 2) = 1))) 125 rfl rfl hb199) rfl ?_
                                  refine WL_skip (gdN (b := (decide ((Int.tmod i155 2) = 1))) 125 rfl rfl hb199) rfl ?_
                                  refine WL_val (gdY (b := false) 121 rfl rfl rfl) ((o_pickF (v := .bool false) rfl hb199 rfl) _) rfl ?_
                                  refine WL_val gd0 ((o_pickF (v := .bool false) rfl rfl rfl) _) rfl ?_
                                  refine WL_nil ?_
                                  refine nrm ?_
                                  refine WC_cond (t := false) rfl (fun hx => by rw [(rfl : false = false)] at hx; cases hx) (fun _ => ?_)
                                  refine WC_skip ?_
                                  refine nrmB ?_
                                  refine nrm ?_
                                  refine WC_region ?_
                                  refine WL_val gd0 ((o_move (v := .int .i64 i155) (by exact e16_154)) _) rfl ?_
                                  refine WL_val gd0 ((o_add rfl rfl) _) rfl ?_
                                  refine WL_val gd0 ((o_assign (v := .int .i64 (IntKind.i64.wrap (i155 + 1))) rfl) _) rfl ?_
                                  refine WL_nil ?_
                                  refine nrm ?_
                                  obtain ⟨m157, hm157, h⟩ := h
                                  exact ⟨m157, hm157, _, rfl, e0_149, e10_150, e11_151, e14_152, e15_153, h⟩
                            · rw [if_neg (of_decide_eq_false hb158)] at h
                              refine WC_exit ?_
                              refine exT ?_
                              refine exT ?_
                              refine exB ?_
                              refine nrm ?_
                              refine WC_seq ?_
                              refine WC_draws [1, 4, 7, 10, 13] (.look 0 (.look 2 (.look 3 (.act 1 (.act 4 (.look 5 (.look 6 (.look 8 (.look 9 (.act 7 (.act 10 (.look 11 (.look 12 (.act 13 (.look 14 (.look 15 .nil)))))))))))))))) Try.mixed (by kernel_rfl) ?_
                              refine WQ_val rfl gd0 (o_move (v := .pointer t91) (by exact e10_150)) rfl ?_
                              refine WQ_val rfl gd0 (o_fieldAddr0 Try.underlying31 rfl Try.sizeOf27 rfl rfl (by exact e11_151)) rfl ?_
                              obtain ⟨x_a220, x_n221, x_c222, hc223, h⟩ := h
                              refine WQ_look (fun w => w.cell? p101 = some (.slice x_a220 x_n221 x_c222)) rfl gd0 (fun w hc => (o_load Try.isAgg27 rfl hc)) hc223 rfl ?_
                              refine WQ_call rfl gd0 (o_call Try.call12 (argCons rfl argNil) _) rfl (h.mono ?_)
                              rintro _ w224 ⟨x_a225, x_n226, x_c227, rfl, hh228, h⟩
                              refine ⟨⟨trivial, fun _ => hh228⟩, ?_⟩
                              refine WQ_call rfl gd0 (o_call Try.call11 (argCons rfl (argCons rfl argNil)) _) rfl (h.mono ?_)
                              rintro _ w229 ⟨x230, rfl, h⟩
                              refine ⟨⟨trivial, depT (by kernel_rfl)⟩, ?_⟩
                              refine WQ_val rfl gd0 (o_move (v := .bool x230) rfl) rfl ?_
                              refine bsplit x230 (fun hb231 => ?_) (fun hb231 => ?_)
                              · rw [if_pos hb231] at h
                                refine WQ_val rfl (gdY (b := x230) 140 rfl rfl hb231) (o_move (v := .pointer c133) (by exact e14_152)) rfl ?_
                                refine WQ_val rfl (gdY (b := x230) 140 rfl rfl hb231) (o_fieldAddr0 Try.underlying31 rfl Try.sizeOf27 rfl rfl (by exact e15_153)) rfl ?_
                                obtain ⟨x_a232, x_n233, x_c234, hc235, h⟩ := h
                                refine WQ_look (fun w => w.cell? p144 = some (.slice x_a232 x_n233 x_c234)) rfl (gdY (b := x230) 140 rfl rfl hb231) (fun w hc => (o_load Try.isAgg27 rfl hc)) hc235 rfl ?_
                                refine WQ_call rfl (gdY (b := x230) 140 rfl rfl hb231) (o_call Try.call12 (argCons rfl argNil) _) rfl (h.mono ?_)
                                rintro _ w236 ⟨x_a237, x_n238, x_c239, rfl, hh240, h⟩
                                refine ⟨⟨⟨trivial, depT (by kernel_rfl)⟩, fun _ => hh240⟩, ?_⟩
                                refine WQ_call rfl (gdY (b := x230) 140 rfl rfl hb231) (o_call Try.call11 (argCons rfl (argCons rfl argNil)) _) rfl (h.mono ?_)
                                rintro _ w241 ⟨x242, rfl, h⟩
                                refine ⟨⟨⟨trivial, depT (by kernel_rfl)⟩, depT (by kernel_rfl)⟩, ?_⟩
                                refine WQ_val rfl gd0 (o_pickT (v := .bool x242) rfl hb231 rfl) rfl ?_
                                refine WQ_val rfl gd0 (o_move (v := .bool x242) rfl) rfl ?_
                                refine bsplit x242 (fun hb243 => ?_) (fun hb243 => ?_)
                                · rw [if_pos hb243] at h
                                  refine WQ_call rfl (gdY (b := x242) 147 rfl rfl hb243) (o_call Try.call9 argNil _) rfl (h.mono ?_)
                                  rintro _ w244 ⟨x245, rfl, h⟩
                                  refine ⟨⟨⟨trivial, depT (by kernel_rfl)⟩, depT (by kernel_rfl)⟩, ?_⟩
                                  refine WQ_val rfl gd0 (o_pickT (v := .bool x245) rfl hb243 rfl) rfl ?_
                                  refine WQ_val rfl gd0 (o_assign (v := .bool x245) rfl) rfl ?_
                                  refine WQ_nil ?_
                                  refine nrm ?_
                                  refine WC_ret ?_
                                  refine rtE ?_
                                  exact gv1 rfl rfl h
                                · rw [if_neg (neT hb243)] at h
                                  refine WQ_passAct rfl (gdN (b := x242) 147 rfl rfl hb243) rfl (by exact ⟨⟨trivial, depT (by kernel_rfl)⟩, depT (by kernel_rfl)⟩) ?_
                                  refine WQ_val rfl gd0 (o_pickF (v := .bool false) rfl hb243 rfl) rfl ?_
                                  refine WQ_val rfl gd0 (o_assign (v := .bool false) rfl) rfl ?_
                                  refine WQ_nil ?_
                                  refine nrm ?_
                                  refine WC_ret ?_
                                  refine rtE ?_
                                  exact gv1 rfl rfl h
                              · rw [if_neg (neT hb231)] at h
                                refine WQ_skip rfl (gdN (b := x230) 140 rfl rfl hb231) rfl ?_
                                refine WQ_skip rfl (gdN (b := x230) 140 rfl rfl hb231) rfl ?_
                                refine WQ_skip rfl (gdN (b := x230) 140 rfl rfl hb231) rfl ?_
                                refine WQ_passAct rfl (gdN (b := x230) 140 rfl rfl hb231) rfl (by exact ⟨trivial, depT (by kernel_rfl)⟩) ?_
                                refine WQ_passAct rfl (gdN (b := x230) 140 rfl rfl hb231) rfl (by exact ⟨trivial, depT (by kernel_rfl)⟩) ?_
                                refine WQ_val rfl gd0 (o_pickF (v := .bool false) rfl hb231 rfl) rfl ?_
                                refine WQ_val rfl gd0 (o_move (v := .bool false) rfl) rfl ?_
                                refine WQ_passAct rfl (gdN (b := false) 147 rfl rfl rfl) rfl (by exact ⟨trivial, depT (by kernel_rfl)⟩) ?_
                                refine WQ_val rfl gd0 (o_pickF (v := .bool false) rfl rfl rfl) rfl ?_
                                refine WQ_val rfl gd0 (o_assign (v := .bool false) rfl) rfl ?_
                                refine WQ_nil ?_
                                refine nrm ?_
                                refine WC_ret ?_
                                refine rtE ?_
                                exact gv1 rfl rfl h

/-- spacecraft action.New -/
def F7 (w1 : World) (k : Value → World → Prop) : Prop :=
  New w1 51 [.bool true, .slice none 0 0] (fun p2 w3 => k (.pointer (some p2)) w3)
set_option maxRecDepth 100000 in
set_option maxHeartbeats 2000000 in
theorem w7 (w1 : World) (k : Value → World → Prop) (h : F7 w1 k) : Does Try.prog 7 #[] w1 k := by
  refine enter 3 Try.func7 rfl rfl rfl ?_
  intro ρ hρ
  unfold F7 at h
  refine WC_seq ?_
  refine WC_region ?_
  refine WL_val gd0 ((o_assign (v := .pointer none) rfl) _) rfl ?_
  refine WL_nil ?_
  refine nrm ?_
  refine WC_seq ?_
  refine WC_region ?_
  refine WL_val gd0 ((o_build (ps := [(0, .bool true)]) (v := .agg #[.bool true, .slice none 0 0]) (partCons rfl partNil) (fun w => by kernel_rfl)) _) rfl ?_
  have h := New.out h
  refine WL_val gd0 (o_box (v := .agg #[.bool true, .slice none 0 0]) (cs := [.bool true, .slice none 0 0]) rfl rfl) rfl ?_
  generalize hp2 : fresh w1 = p2 at h ⊢
  generalize hw3 : push w1 51 [.bool true, .slice none 0 0] = w3 at h ⊢
  try dsimp only at h
  refine WL_val gd0 ((o_assign (v := .pointer (some p2)) rfl) _) rfl ?_
  refine WL_nil ?_
  refine nrm ?_
  refine WC_ret ?_
  refine rtE ?_
  exact gv1 rfl rfl h

def F8_b1 (l_n2 : Nat) (l_a1 : Option Addr) (i7 : Int) (w8 : World) (k : Value → World → Prop) (nx8 : Int → World → Prop) : Prop :=
  if i7 < (l_n2 : Int) then
  ∃ (p13 : Addr), l_a1 = some p13 ∧ (0 : Int) ≤ i7 ∧ i7 < (l_n2 : Int) ∧ ∃ (x15 x16 x17 : Int) (x_a18 : Option Addr) (x_n19 x_c20 : Nat) (x_a21 : Option Addr) (x_n22 x_c23 : Nat), Cells w8 ((p13.add (i7.toNat * 8)).add 3) 0 [.int .i64 x15, .int .i64 x16, .int .i64 x17, .slice x_a18 x_n19 x_c20, .slice x_a21 x_n22 x_c23] ∧ Does Try.prog 19 #[.agg #[.int .i64 x15, .int .i64 x16, .int .i64 x17, .slice x_a18 x_n19 x_c20, .slice x_a21 x_n22 x_c23]] w8 (fun v w25 => ∃ (x26 : Bool), v = .bool x26 ∧ if (!x26) = true then
    k (.bool false) w25
  else
    nx8 (IntKind.i64.wrap (i7 + 1)) w25)
else
  k (.bool (decide ((l_n2 : Int) ≤ 60))) w8
/-- spacecraft spacecraftlaw37.small -/
def F8 (l_a1 : Option Addr) (l_n2 : Nat) (l_c3 : Nat) (w4 : World) (k : Value → World → Prop) : Prop :=
  LoopP (fun (s : Int) w' nx' => F8_b1 l_n2 l_a1 s w' k (fun x0 w => nx' x0 w)) 0 w4
set_option maxRecDepth 100000 in
set_option maxHeartbeats 2000000 in
theorem w8 (l_a1 : Option Addr) (l_n2 : Nat) (l_c3 : Nat) (w4 : World) (k : Value → World → Prop) (h : F8 l_a1 l_n2 l_c3 w4 k) : Does Try.prog 8 #[.slice l_a1 l_n2 l_c3] w4 k := by
  refine enter 20 Try.func8 rfl rfl rfl ?_
  intro ρ hρ
  have e0 := hρ 0 _ rfl
  unfold F8 at h
  refine WC_seq ?_
  refine WC_region ?_
  refine WL_val gd0 ((o_assign (v := .bool false) rfl) _) rfl ?_
  refine WL_nil ?_
  refine nrm ?_
  refine WC_seq ?_
  refine WC_seq ?_
  refine WC_region ?_
  refine WL_val gd0 ((o_assign (v := .int .i64 0) rfl) _) rfl ?_
  refine WL_nil ?_
  refine nrm ?_
  refine WC_block ?_
  obtain ⟨J8, ⟨n8, h0⟩, hr8⟩ := h
  refine WC_loop (fun n ρ w' => ∃ (i7 : Int), ρ 3 = .int .i64 i7 ∧ ρ 0 = .slice l_a1 l_n2 l_c3 ∧ J8 n i7 w') ⟨n8, _, rfl, e0, h0⟩ ?_
  rintro n8 ρ w8 ⟨i7, e3_6, e0_5, h⟩
  have h : F8_b1 l_n2 l_a1 i7 w8 k (fun x0 w => ∃ m, m < n8 ∧ J8 m x0 w) := hr8 n8 i7 w8 h
  unfold F8_b1 at h
  refine WC_seq ?_
  refine WC_seq ?_
  refine WC_region ?_
  refine WL_val gd0 ((o_move (v := .int .i64 i7) (by exact e3_6)) _) rfl ?_
  refine WL_val gd0 ((o_move (v := .slice l_a1 l_n2 l_c3) (by exact e0_5)) _) rfl ?_
  refine WL_val gd0 ((o_len Try.underlying22 rfl) _) rfl ?_
  refine WL_val gd0 ((o_lss rfl rfl) _) rfl ?_
  refine WL_nil ?_
  refine nrm ?_
  refine WC_cond (t := (decide (i7 < (l_n2 : Int)))) rfl (fun hb10 => ?_) (fun hb10 => ?_)
  · rw [if_pos (of_decide_eq_true hb10)] at h
    refine WC_skip ?_
    refine nrm ?_
    refine WC_seq ?_
    refine WC_block ?_
    refine WC_seq ?_
    refine WC_region ?_
    refine WL_val gd0 ((o_move (v := .slice l_a1 l_n2 l_c3) (by exact e0_5)) _) rfl ?_
    refine WL_val gd0 ((o_move (v := .int .i64 i7) (by exact e3_6)) _) rfl ?_
    obtain ⟨p13, q14, h⟩ := h
    obtain ⟨l11, u12, h⟩ := h
    refine WL_val gd0 ((o_indexAddr Try.underlying22 Try.sizeOf38 (by exact (congrArg (fun z => Value.slice z l_n2 l_c3) q14)) rfl l11 u12) _) rfl ?_
    refine WL_val gd0 ((o_fieldAddr 3 Try.underlying38 rfl Try.sizeOf36 rfl rfl rfl) _) rfl ?_
    obtain ⟨x15, x16, x17, x_a18, x_n19, x_c20, x_a21, x_n22, x_c23, hc24, h⟩ := h
    refine WL_val gd0 (o_loadAgg (vs := [.int .i64 x15, .int .i64 x16, .int .i64 x17, .slice x_a18 x_n19 x_c20, .slice x_a21 x_n22 x_c23]) Try.isAgg36 Try.sizeOf36 rfl hc24) rfl ?_
    refine WL_call gd0 (o_call Try.call19 (argCons rfl argNil) _) rfl (h.mono ?_)
    rintro _ w25 ⟨x26, rfl, h⟩
    refine WL_val gd0 ((o_not rfl) _) rfl ?_
    refine WL_nil ?_
    refine nrm ?_
    refine WC_cond (t := (!x26)) rfl (fun hb27 => ?_) (fun hb27 => ?_)
    · rw [if_pos hb27] at h
      refine WC_seq ?_
      refine WC_region ?_
      refine WL_val gd0 ((o_assign (v := .bool false) rfl) _) rfl ?_
      refine WL_nil ?_
      refine nrm ?_
      refine WC_ret ?_
      refine rtB ?_
      refine rtT ?_
      refine rtT ?_
      refine rtB ?_
      refine rtT ?_
      refine rtE ?_
      exact gv1 rfl rfl h
    · rw [if_neg (neT hb27)] at h
      refine WC_skip ?_
      refine nrmB ?_
      refine nrm ?_
      refine WC_region ?_
      refine WL_val gd0 ((o_move (v := .int .i64 i7) (by exact e3_6)) _) rfl ?_
      refine WL_val gd0 ((o_add rfl rfl) _) rfl ?_
      refine WL_val gd0 ((o_assign (v := .int .i64 (IntKind.i64.wrap (i7 + 1))) rfl) _) rfl ?_
      refine WL_nil ?_
      refine nrm ?_
      obtain ⟨m9, hm9, h⟩ := h
      exact ⟨m9, hm9, _, rfl, e0_5, h⟩
  · rw [if_neg (of_decide_eq_false hb10)] at h
    refine WC_exit ?_
    refine exT ?_
    refine exT ?_
    refine exB ?_
    refine nrm ?_
    refine WC_seq ?_
    refine WC_region ?_
    refine WL_val gd0 ((o_move (v := .slice l_a1 l_n2 l_c3) (by exact e0_5)) _) rfl ?_
    refine WL_val gd0 ((o_len Try.underlying22 rfl) _) rfl ?_
    refine WL_val gd0 ((o_leq rfl rfl) _) rfl ?_
    refine WL_val gd0 ((o_assign (v := .bool (decide ((l_n2 : Int) ≤ 60))) rfl) _) rfl ?_
    refine WL_nil ?_
    refine nrm ?_
    refine WC_ret ?_
    refine rtE ?_
    exact gv1 rfl rfl h

/-- spacecraft spacecraftlaw37.lives -/
def F9 (w1 : World) (k : Value → World → Prop) : Prop :=
  Does Try.prog 7 #[] w1 (fun v w2 => ∃ (t3 : Option Addr), v = .pointer t3 ∧ if (t3).isNone = true then
  k (.bool false) w2
else
  New w2 36 [.int .i64 0, .int .i64 0, .int .i64 0, .slice none 0 0, .slice none 0 0] (fun p5 w6 => PutAll w6 p5 [.int .i64 1, .int .i64 5, .int .i64 1, .slice none 0 0, .slice none 0 0] (fun w7 => ∃ (x9 x10 x11 : Int) (x_a12 : Option Addr) (x_n13 x_c14 : Nat) (x_a15 : Option Addr) (x_n16 x_c17 : Nat), Cells w7 p5 0 [.int .i64 x9, .int .i64 x10, .int .i64 x11, .slice x_a12 x_n13 x_c14, .slice x_a15 x_n16 x_c17] ∧ Does Try.prog 13 #[.pointer t3, .int .i64 7, .agg #[.int .i64 x9, .int .i64 x10, .int .i64 x11, .slice x_a12 x_n13 x_c14, .slice x_a15 x_n16 x_c17]] w7 (fun v w19 => ∃ (a20 : Int), v = .int .i64 a20 ∧ Does Try.prog 16 #[.pointer t3, .int .i64 7] w19 (fun v w21 => ∃ (r22 r23 r24 : Int) (r_a25 : Option Addr) (r_n26 r_c27 : Nat) (r_a28 : Option Addr) (r_n29 r_c30 : Nat) (r31 : Bool), v = .tuple #[.agg #[.int .i64 r22, .int .i64 r23, .int .i64 r24, .slice r_a25 r_n26 r_c27, .slice r_a28 r_n29 r_c30], .bool r31] ∧ New w21 36 [.int .i64 0, .int .i64 0, .int .i64 0, .slice none 0 0, .slice none 0 0] (fun p32 w33 => PutAll w33 p32 [.int .i64 r22, .int .i64 r23, .int .i64 r24, .slice r_a25 r_n26 r_c27, .slice r_a28 r_n29 r_c30] (fun w34 => Does Try.prog 15 #[.pointer t3, .int .i64 7, .bool true] w34 (fun v w36 => ∃ (c37 : Int), v = .int .i64 c37 ∧ Does Try.prog 16 #[.pointer t3, .int .i64 7] w36 (fun v w38 => ∃ (r39 r40 r41 : Int) (r_a42 : Option Addr) (r_n43 r_c44 : Nat) (r_a45 : Option Addr) (r_n46 r_c47 : Nat) (r48 : Bool), v = .tuple #[.agg #[.int .i64 r39, .int .i64 r40, .int .i64 r41, .slice r_a42 r_n43 r_c44, .slice r_a45 r_n46 r_c47], .bool r48] ∧ New w38 36 [.int .i64 0, .int .i64 0, .int .i64 0, .slice none 0 0, .slice none 0 0] (fun p49 w50 => PutAll w50 p49 [.int .i64 r39, .int .i64 r40, .int .i64 r41, .slice r_a42 r_n43 r_c44, .slice r_a45 r_n46 r_c47] (fun w51 => Does Try.prog 14 #[.pointer t3, .int .i64 7] w51 (fun v w53 => ∃ (e_54 : Int), v = .int .i64 e_54 ∧ New w53 3 [.int .i64 1] (fun p55 w56 => Does Try.prog 13 #[.pointer t3, .int .i64 7, .agg #[.int .i64 0, .int .i64 0, .int .i64 2, .slice (some p55) 1 1, .slice none 0 0]] w56 (fun v w57 => ∃ (f58 : Int), v = .int .i64 f58 ∧ if a20 = 0 then
    if (!r31) = true then
      if c37 = 0 then
        if r48 = true then
          ∃ (x63 x64 x65 : Int) (x_a66 : Option Addr) (x_n67 x_c68 : Nat) (x_a69 : Option Addr) (x_n70 x_c71 : Nat), Cells w57 p49 0 [.int .i64 x63, .int .i64 x64, .int .i64 x65, .slice x_a66 x_n67 x_c68, .slice x_a69 x_n70 x_c71] ∧ ∃ (x73 x74 x75 : Int) (x_a76 : Option Addr) (x_n77 x_c78 : Nat) (x_a79 : Option Addr) (x_n80 x_c81 : Nat), Cells w57 p5 0 [.int .i64 x73, .int .i64 x74, .int .i64 x75, .slice x_a76 x_n77 x_c78, .slice x_a79 x_n80 x_c81] ∧ Does Try.prog 17 #[.agg #[.int .i64 x63, .int .i64 x64, .int .i64 x65, .slice x_a66 x_n67 x_c68, .slice x_a69 x_n70 x_c71], .agg #[.int .i64 x73, .int .i64 x74, .int .i64 x75, .slice x_a76 x_n77 x_c78, .slice x_a79 x_n80 x_c81]] w57 (fun v w83 => ∃ (x84 : Bool), v = .bool x84 ∧ if x84 = true then
            if e_54 = 12 then
              if f58 = 9 then
                ∃ (x88 x89 x90 : Int) (x_a91 : Option Addr) (x_n92 x_c93 : Nat) (x_a94 : Option Addr) (x_n95 x_c96 : Nat), Cells w83 p5 0 [.int .i64 x88, .int .i64 x89, .int .i64 x90, .slice x_a91 x_n92 x_c93, .slice x_a94 x_n95 x_c96] ∧ Does Try.prog 13 #[.pointer t3, .int .i64 (-1), .agg #[.int .i64 x88, .int .i64 x89, .int .i64 x90, .slice x_a91 x_n92 x_c93, .slice x_a94 x_n95 x_c96]] w83 (fun v w98 => ∃ (x99 : Int), v = .int .i64 x99 ∧ if x99 = 1 then
                  Does Try.prog 13 #[.pointer t3, .int .i64 8, .agg #[.int .i64 0, .int .i64 0, .int .i64 0, .slice none 0 0, .slice none 0 0]] w98 (fun v w101 => ∃ (x102 : Int), v = .int .i64 x102 ∧ if x102 = 0 then
                    Does Try.prog 12 #[.pointer t3] w101 (fun v w104 => ∃ (x_a105 : Option Addr) (x_n106 x_c107 : Nat), v = .slice x_a105 x_n106 x_c107 ∧ New w104 3 [.int .i64 7, .int .i64 8] (fun p108 w109 => Does Try.prog 11 #[.slice x_a105 x_n106 x_c107, .slice (some p108) 2 2] w109 (fun v w110 => ∃ (x111 : Bool), v = .bool x111 ∧ if x111 = true then
                      Does Try.prog 15 #[.pointer t3, .int .i64 9, .bool true] w110 (fun v w113 => ∃ (x114 : Int), v = .int .i64 x114 ∧ k (.bool (decide (x114 = 8))) w113)
                    else
                      k (.bool false) w110)))
                  else
                    k (.bool false) w101)
                else
                  k (.bool false) w98)
              else
                k (.bool false) w83
            else
              k (.bool false) w83
          else
            k (.bool false) w83)
        else
          k (.bool false) w57
      else
        k (.bool false) w57
    else
      k (.bool false) w57
  else
    k (.bool false) w57))))))))))))))
set_option maxRecDepth 100000 in
set_option maxHeartbeats 2000000 in
theorem w9 (w1 : World) (k : Value → World → Prop) (h : F9 w1 k) : Does Try.prog 9 #[] w1 k := by
  refine enter 85 Try.func9 rfl rfl rfl ?_
  intro ρ hρ
  unfold F9 at h
  refine WC_seq ?_
  refine WC_region ?_
  refine WL_val gd0 ((o_assign (v := .bool false) rfl) _) rfl ?_
  refine WL_nil ?_
  refine nrm ?_
  refine WC_seq ?_
  refine WC_region ?_
  refine WL_call gd0 (o_call Try.call7 argNil _) rfl (h.mono ?_)
  rintro _ w2 ⟨t3, rfl, h⟩
  refine WL_val gd0 ((o_assign (v := .pointer t3) rfl) _) rfl ?_
  refine WL_nil ?_
  refine nrm ?_
  refine WC_seq ?_
  refine WC_seq ?_
  refine WC_region ?_
  refine WL_val gd0 ((o_move (v := .pointer t3) rfl) _) rfl ?_
  refine WL_val gd0 ((o_eqlPtrNil Try.underlying23 rfl rfl) _) rfl ?_
  refine WL_nil ?_
  refine nrm ?_
  refine WC_cond (t := ((t3).isNone)) rfl (fun hb4 => ?_) (fun hb4 => ?_)
  · rw [if_pos hb4] at h
    refine WC_seq ?_
    refine WC_region ?_
    refine WL_val gd0 ((o_assign (v := .bool false) rfl) _) rfl ?_
    refine WL_nil ?_
    refine nrm ?_
    refine WC_ret ?_
    refine rtT ?_
    refine rtE ?_
    exact gv1 rfl rfl h
  · rw [if_neg (neT hb4)] at h
    refine WC_skip ?_
    refine nrm ?_
    refine WC_seq ?_
    refine WC_region ?_
    refine WL_val gd0 ((o_build (ps := [(0, .int .i64 1), (1, .int .i64 5), (2, .int .i64 1)]) (v := .agg #[.int .i64 1, .int .i64 5, .int .i64 1, .slice none 0 0, .slice none 0 0]) (partCons rfl (partCons rfl (partCons rfl partNil))) (fun w => by kernel_rfl)) _) rfl ?_
    have h := New.out h
    refine WL_val gd0 (o_alloc (z := .agg #[.int .i64 0, .int .i64 0, .int .i64 0, .slice none 0 0, .slice none 0 0]) (cs := [.int .i64 0, .int .i64 0, .int .i64 0, .slice none 0 0, .slice none 0 0]) Try.zeroValue36 rfl) rfl ?_
    generalize hp5 : fresh w2 = p5 at h ⊢
    generalize hw6 : push w2 36 [.int .i64 0, .int .i64 0, .int .i64 0, .slice none 0 0, .slice none 0 0] = w6 at h ⊢
    try dsimp only at h
    obtain ⟨c8, h⟩ := h
    refine WL_act gd0 (o_storeAgg (vs := [.int .i64 1, .int .i64 5, .int .i64 1, .slice none 0 0, .slice none 0 0]) Try.sizeOf36 rfl rfl rfl c8) ?_
    generalize hw7 : setAll w6 p5 0 [.int .i64 1, .int .i64 5, .int .i64 1, .slice none 0 0, .slice none 0 0] = w7 at h ⊢
    try dsimp only at h
    refine WL_nil ?_
    refine nrm ?_
    refine WC_seq ?_
    refine WC_region ?_
    refine WL_val gd0 ((o_move (v := .pointer t3) rfl) _) rfl ?_
    obtain ⟨x9, x10, x11, x_a12, x_n13, x_c14, x_a15, x_n16, x_c17, hc18, h⟩ := h
    refine WL_val gd0 (o_loadAgg (vs := [.int .i64 x9, .int .i64 x10, .int .i64 x11, .slice x_a12 x_n13 x_c14, .slice x_a15 x_n16 x_c17]) Try.isAgg36 Try.sizeOf36 rfl hc18) rfl ?_
    refine WL_call gd0 (o_call Try.call13 (argCons rfl (argCons rfl (argCons rfl argNil))) _) rfl (h.mono ?_)
    rintro _ w19 ⟨a20, rfl, h⟩
    refine WL_val gd0 ((o_assign (v := .int .i64 a20) rfl) _) rfl ?_
    refine WL_nil ?_
    refine nrm ?_
    refine WC_seq ?_
    refine WC_region ?_
    refine WL_val gd0 ((o_move (v := .pointer t3) rfl) _) rfl ?_
    refine WL_call gd0 (o_call Try.call16 (argCons rfl (argCons rfl argNil)) _) rfl (h.mono ?_)
    rintro _ w21 ⟨r22, r23, r24, r_a25, r_n26, r_c27, r_a28, r_n29, r_c30, r31, rfl, h⟩
    refine WL_val gd0 ((o_move (v := .tuple #[.agg #[.int .i64 r22, .int .i64 r23, .int .i64 r24, .slice r_a25 r_n26 r_c27, .slice r_a28 r_n29 r_c30], .bool r31]) rfl) _) rfl ?_
    refine WL_val gd0 ((o_extract (vs := [.agg #[.int .i64 r22, .int .i64 r23, .int .i64 r24, .slice r_a25 r_n26 r_c27, .slice r_a28 r_n29 r_c30], .bool r31]) (r := .agg #[.int .i64 r22, .int .i64 r23, .int .i64 r24, .slice r_a25 r_n26 r_c27, .slice r_a28 r_n29 r_c30]) rfl rfl) _) rfl ?_
    refine WL_val gd0 ((o_extract (vs := [.agg #[.int .i64 r22, .int .i64 r23, .int .i64 r24, .slice r_a25 r_n26 r_c27, .slice r_a28 r_n29 r_c30], .bool r31]) (r := .bool r31) rfl rfl) _) rfl ?_
    have h := New.out h
    refine WL_val gd0 (o_alloc (z := .agg #[.int .i64 0, .int .i64 0, .int .i64 0, .slice none 0 0, .slice none 0 0]) (cs := [.int .i64 0, .int .i64 0, .int .i64 0, .slice none 0 0, .slice none 0 0]) Try.zeroValue36 rfl) rfl ?_
    generalize hp32 : fresh w21 = p32 at h ⊢
    generalize hw33 : push w21 36 [.int .i64 0, .int .i64 0, .int .i64 0, .slice none 0 0, .slice none 0 0] = w33 at h ⊢
    try dsimp only at h
    obtain ⟨c35, h⟩ := h
    refine WL_act gd0 (o_storeAgg (vs := [.int .i64 r22, .int .i64 r23, .int .i64 r24, .slice r_a25 r_n26 r_c27, .slice r_a28 r_n29 r_c30]) Try.sizeOf36 rfl rfl rfl c35) ?_
    generalize hw34 : setAll w33 p32 0 [.int .i64 r22, .int .i64 r23, .int .i64 r24, .slice r_a25 r_n26 r_c27, .slice r_a28 r_n29 r_c30] = w34 at h ⊢
    try dsimp only at h
    refine WL_val gd0 ((o_assign (v := .bool r31) rfl) _) rfl ?_
    refine WL_nil ?_
    refine nrm ?_
    refine WC_seq ?_
    refine WC_region ?_
    refine WL_val gd0 ((o_move (v := .pointer t3) rfl) _) rfl ?_
    refine WL_call gd0 (o_call Try.call15 (argCons rfl (argCons rfl (argCons rfl argNil))) _) rfl (h.mono ?_)
    rintro _ w36 ⟨c37, rfl, h⟩
    refine WL_val gd0 ((o_assign (v := .int .i64 c37) rfl) _) rfl ?_
    refine WL_nil ?_
    refine nrm ?_
    refine WC_seq ?_
    refine WC_region ?_
    refine WL_val gd0 ((o_move (v := .pointer t3) rfl) _) rfl ?_
    refine WL_call gd0 (o_call Try.call16 (argCons rfl (argCons rfl argNil)) _) rfl (h.mono ?_)
    rintro _ w38 ⟨r39, r40, r41, r_a42, r_n43, r_c44, r_a45, r_n46, r_c47, r48, rfl, h⟩
    refine WL_val gd0 ((o_move (v := .tuple #[.agg #[.int .i64 r39, .int .i64 r40, .int .i64 r41, .slice r_a42 r_n43 r_c44, .slice r_a45 r_n46 r_c47], .bool r48]) rfl) _) rfl ?_
    refine WL_val gd0 ((o_extract (vs := [.agg #[.int .i64 r39, .int .i64 r40, .int .i64 r41, .slice r_a42 r_n43 r_c44, .slice r_a45 r_n46 r_c47], .bool r48]) (r := .agg #[.int .i64 r39, .int .i64 r40, .int .i64 r41, .slice r_a42 r_n43 r_c44, .slice r_a45 r_n46 r_c47]) rfl rfl) _) rfl ?_
    refine WL_val gd0 ((o_extract (vs := [.agg #[.int .i64 r39, .int .i64 r40, .int .i64 r41, .slice r_a42 r_n43 r_c44, .slice r_a45 r_n46 r_c47], .bool r48]) (r := .bool r48) rfl rfl) _) rfl ?_
    have h := New.out h
    refine WL_val gd0 (o_alloc (z := .agg #[.int .i64 0, .int .i64 0, .int .i64 0, .slice none 0 0, .slice none 0 0]) (cs := [.int .i64 0, .int .i64 0, .int .i64 0, .slice none 0 0, .slice none 0 0]) Try.zeroValue36 rfl) rfl ?_
    generalize hp49 : fresh w38 = p49 at h ⊢
    generalize hw50 : push w38 36 [.int .i64 0, .int .i64 0, .int .i64 0, .slice none 0 0, .slice none 0 0] = w50 at h ⊢
    try dsimp only at h
    obtain ⟨c52, h⟩ := h
    refine WL_act gd0 (o_storeAgg (vs := [.int .i64 r39, .int .i64 r40, .int .i64 r41, .slice r_a42 r_n43 r_c44, .slice r_a45 r_n46 r_c47]) Try.sizeOf36 rfl rfl rfl c52) ?_
    generalize hw51 : setAll w50 p49 0 [.int .i64 r39, .int .i64 r40, .int .i64 r41, .slice r_a42 r_n43 r_c44, .slice r_a45 r_n46 r_c47] = w51 at h ⊢
    try dsimp only at h
    refine WL_val gd0 ((o_assign (v := .bool r48) rfl) _) rfl ?_
    refine WL_nil ?_
    refine nrm ?_
    refine WC_seq ?_
    refine WC_region ?_
    refine WL_val gd0 ((o_move (v := .pointer t3) rfl) _) rfl ?_
    refine WL_call gd0 (o_call Try.call14 (argCons rfl (argCons rfl argNil)) _) rfl (h.mono ?_)
    rintro _ w53 ⟨e_54, rfl, h⟩
    refine WL_val gd0 ((o_assign (v := .int .i64 e_54) rfl) _) rfl ?_
    refine WL_nil ?_
    refine nrm ?_
    refine WC_seq ?_
    refine WC_region ?_
    refine WL_val gd0 ((o_move (v := .pointer t3) rfl) _) rfl ?_
    have h := New.out h
    refine WL_val gd0 (o_buildSlice (e := 3) (ps := [(0, .int .i64 1)]) (cs := [.int .i64 1]) (partCons rfl partNil) (fun w => by kernel_rfl)) rfl ?_
    generalize hp55 : fresh w53 = p55 at h ⊢
    generalize hw56 : push w53 3 [.int .i64 1] = w56 at h ⊢
    try dsimp only at h
    refine WL_val gd0 ((o_build (ps := [(2, .int .i64 2), (3, .slice (some p55) 1 1)]) (v := .agg #[.int .i64 0, .int .i64 0, .int .i64 2, .slice (some p55) 1 1, .slice none 0 0]) (partCons rfl (partCons rfl partNil)) (fun w => by kernel_rfl)) _) rfl ?_
    refine WL_call gd0 (o_call Try.call13 (argCons rfl (argCons rfl (argCons rfl argNil))) _) rfl (h.mono ?_)
    rintro _ w57 ⟨f58, rfl, h⟩
    refine WL_val gd0 ((o_assign (v := .int .i64 f58) rfl) _) rfl ?_
    refine WL_nil ?_
    refine nrm ?_
    refine WC_seq ?_
    refine WC_region ?_
    refine WL_val gd0 ((o_move (v := .int .i64 a20) rfl) _) rfl ?_
    refine WL_val gd0 ((o_eql rfl rfl) _) rfl ?_
    refine WL_val gd0 ((o_move (v := .bool (decide (a20 = 0))) rfl) _) rfl ?_
    refine bsplit (decide (a20 = 0)) (fun hb59 => ?_) (fun hb59 => ?_)
    · rw [if_pos (of_decide_eq_true hb59)] at h
      refine WL_val (gdY (b := (decide (a20 = 0))) 38 rfl rfl hb59) ((o_move (v := .bool r31) rfl) _) rfl ?_
      refine WL_val (gdY (b := (decide (a20 = 0))) 38 rfl rfl hb59) ((o_not rfl) _) rfl ?_
      refine WL_val gd0 ((o_pickT (v := .bool (!r31)) rfl hb59 rfl) _) rfl ?_
      refine WL_val gd0 ((o_move (v := .bool (!r31)) rfl) _) rfl ?_
      refine bsplit (!r31) (fun hb60 => ?_) (fun hb60 => ?_)
      · rw [if_pos hb60] at h
        refine WL_val (gdY (b := (!r31)) 42 rfl rfl hb60) ((o_move (v := .int .i64 c37) rfl) _) rfl ?_
        refine WL_val (gdY (b := (!r31)) 42 rfl rfl hb60) ((o_eql rfl rfl) _) rfl ?_
        refine WL_val gd0 ((o_pickT (v := .bool (decide (c37 = 0))) rfl hb60 rfl) _) rfl ?_
        refine WL_val gd0 ((o_move (v := .bool (decide (c37 = 0))) rfl) _) rfl ?_
        refine bsplit (decide (c37 = 0)) (fun hb61 => ?_) (fun hb61 => ?_)
        · rw [if_pos (of_decide_eq_true hb61)] at h
          refine WL_val (gdY (b := (decide (c37 = 0))) 46 rfl rfl hb61) ((o_move (v := .bool r48) rfl) _) rfl ?_
          refine WL_val gd0 ((o_pickT (v := .bool r48) rfl hb61 rfl) _) rfl ?_
          refine WL_val gd0 ((o_move (v := .bool r48) rfl) _) rfl ?_
          refine bsplit r48 (fun hb62 => ?_) (fun hb62 => ?_)
          · rw [if_pos hb62] at h
            obtain ⟨x63, x64, x65, x_a66, x_n67, x_c68, x_a69, x_n70, x_c71, hc72, h⟩ := h
            refine WL_val (gdY (b := r48) 49 rfl rfl hb62) (o_loadAgg (vs := [.int .i64 x63, .int .i64 x64, .int .i64 x65, .slice x_a66 x_n67 x_c68, .slice x_a69 x_n70 x_c71]) Try.isAgg36 Try.sizeOf36 rfl hc72) rfl ?_
            obtain ⟨x73, x74, x75, x_a76, x_n77, x_c78, x_a79, x_n80, x_c81, hc82, h⟩ := h
            refine WL_val (gdY (b := r48) 49 rfl rfl hb62) (o_loadAgg (vs := [.int .i64 x73, .int .i64 x74, .int .i64 x75, .slice x_a76 x_n77 x_c78, .slice x_a79 x_n80 x_c81]) Try.isAgg36 Try.sizeOf36 rfl hc82) rfl ?_
            refine WL_call (gdY (b := r48) 49 rfl rfl hb62) (o_call Try.call17 (argCons rfl (argCons rfl argNil)) _) rfl (h.mono ?_)
            rintro _ w83 ⟨x84, rfl, h⟩
            refine WL_val gd0 ((o_pickT (v := .bool x84) rfl hb62 rfl) _) rfl ?_
            refine WL_val gd0 ((o_move (v := .bool x84) rfl) _) rfl ?_
            refine bsplit x84 (fun hb85 => ?_) (fun hb85 => ?_)
            · rw [if_pos hb85] at h
              refine WL_val (gdY (b := x84) 54 rfl rfl hb85) ((o_move (v := .int .i64 e_54) rfl) _) rfl ?_
              refine WL_val (gdY (b := x84) 54 rfl rfl hb85) ((o_eql rfl rfl) _) rfl ?_
              refine WL_val gd0 ((o_pickT (v := .bool (decide (e_54 = 12))) rfl hb85 rfl) _) rfl ?_
              refine WL_val gd0 ((o_move (v := .bool (decide (e_54 = 12))) rfl) _) rfl ?_
              refine bsplit (decide (e_54 = 12)) (fun hb86 => ?_) (fun hb86 => ?_)
              · rw [if_pos (of_decide_eq_true hb86)] at h
                refine WL_val (gdY (b := (decide (e_54 = 12))) 58 rfl rfl hb86) ((o_move (v := .int .i64 f58) rfl) _) rfl ?_
                refine WL_val (gdY (b := (decide (e_54 = 12))) 58 rfl rfl hb86) ((o_eql rfl rfl) _) rfl ?_
                refine WL_val gd0 ((o_pickT (v := .bool (decide (f58 = 9))) rfl hb86 rfl) _) rfl ?_
                refine WL_val gd0 ((o_move (v := .bool (decide (f58 = 9))) rfl) _) rfl ?_
                refine bsplit (decide (f58 = 9)) (fun hb87 => ?_) (fun hb87 => ?_)
                · rw [if_pos (of_decide_eq_true hb87)] at h
                  refine WL_val (gdY (b := (decide (f58 = 9))) 62 rfl rfl hb87) ((o_move (v := .pointer t3) rfl) _) rfl ?_
                  obtain ⟨x88, x89, x90, x_a91, x_n92, x_c93, x_a94, x_n95, x_c96, hc97, h⟩ := h
                  refine WL_val (gdY (b := (decide (f58 = 9))) 62 rfl rfl hb87) (o_loadAgg (vs := [.int .i64 x88, .int .i64 x89, .int .i64 x90, .slice x_a91 x_n92 x_c93, .slice x_a94 x_n95 x_c96]) Try.isAgg36 Try.sizeOf36 rfl hc97) rfl ?_
                  refine WL_call (gdY (b := (decide (f58 = 9))) 62 rfl rfl hb87) (o_call Try.call13 (argCons rfl (argCons rfl (argCons rfl argNil))) _) rfl (h.mono ?_)
                  rintro _ w98 ⟨x99, rfl, h⟩
                  refine WL_val (gdY (b := (decide (f58 = 9))) 62 rfl rfl hb87) ((o_eql rfl rfl) _) rfl ?_
                  refine WL_val gd0 ((o_pickT (v := .bool (decide (x99 = 1))) rfl hb87 rfl) _) rfl ?_
                  refine WL_val gd0 ((o_move (v := .bool (decide (x99 = 1))) rfl) _) rfl ?_
                  refine bsplit (decide (x99 = 1)) (fun hb100 => ?_) (fun hb100 => ?_)
                  · rw [if_pos (of_decide_eq_true hb100)] at h
                    refine WL_val (gdY (b := (decide (x99 = 1))) 68 rfl rfl hb100) ((o_move (v := .pointer t3) rfl) _) rfl ?_
                    refine WL_val (gdY (b := (decide (x99 = 1))) 68 rfl rfl hb100) ((o_build (ps := []) (v := .agg #[.int .i64 0, .int .i64 0, .int .i64 0, .slice none 0 0, .slice none 0 0]) partNil (fun w => by kernel_rfl)) _) rfl ?_
                    refine WL_call (gdY (b := (decide (x99 = 1))) 68 rfl rfl hb100) (o_call Try.call13 (argCons rfl (argCons rfl (argCons rfl argNil))) _) rfl (h.mono ?_)
                    rintro _ w101 ⟨x102, rfl, h⟩
                    refine WL_val (gdY (b := (decide (x99 = 1))) 68 rfl rfl hb100) ((o_eql rfl rfl) _) rfl ?_
                    refine WL_val gd0 ((o_pickT (v := .bool (decide (x102 = 0))) rfl hb100 rfl) _) rfl ?_
                    refine WL_val gd0 ((o_move (v := .bool (decide (x102 = 0))) rfl) _) rfl ?_
                    refine bsplit (decide (x102 = 0)) (fun hb103 => ?_) (fun hb103 => ?_)
                    · rw [if_pos (of_decide_eq_true hb103)] at h
                      refine WL_val (gdY (b := (decide (x102 = 0))) 74 rfl rfl hb103) ((o_move (v := .pointer t3) rfl) _) rfl ?_
                      refine WL_call (gdY (b := (decide (x102 = 0))) 74 rfl rfl hb103) (o_call Try.call12 (argCons rfl argNil) _) rfl (h.mono ?_)
                      rintro _ w104 ⟨x_a105, x_n106, x_c107, rfl, h⟩
                      have h := New.out h
                      refine WL_val (gdY (b := (decide (x102 = 0))) 74 rfl rfl hb103) (o_buildSlice (e := 3) (ps := [(0, .int .i64 7), (1, .int .i64 8)]) (cs := [.int .i64 7, .int .i64 8]) (partCons rfl (partCons rfl partNil)) (fun w => by kernel_rfl)) rfl ?_
                      generalize hp108 : fresh w104 = p108 at h ⊢
                      generalize hw109 : push w104 3 [.int .i64 7, .int .i64 8] = w109 at h ⊢
                      try dsimp only at h
                      refine WL_call (gdY (b := (decide (x102 = 0))) 74 rfl rfl hb103) (o_call Try.call11 (argCons rfl (argCons rfl argNil)) _) rfl (h.mono ?_)
                      rintro _ w110 ⟨x111, rfl, h⟩
                      refine WL_val gd0 ((o_pickT (v := .bool x111) rfl hb103 rfl) _) rfl ?_
                      refine WL_val gd0 ((o_move (v := .bool x111) rfl) _) rfl ?_
                      refine bsplit x111 (fun hb112 => ?_) (fun hb112 => ?_)
                      · rw [if_pos hb112] at h
                        refine WL_val (gdY (b := x111) 80 rfl rfl hb112) ((o_move (v := .pointer t3) rfl) _) rfl ?_
                        refine WL_call (gdY (b := x111) 80 rfl rfl hb112) (o_call Try.call15 (argCons rfl (argCons rfl (argCons rfl argNil))) _) rfl (h.mono ?_)
                        rintro _ w113 ⟨x114, rfl, h⟩
                        refine WL_val (gdY (b := x111) 80 rfl rfl hb112) ((o_eql rfl rfl) _) rfl ?_
                        refine WL_val gd0 ((o_pickT (v := .bool (decide (x114 = 8))) rfl hb112 rfl) _) rfl ?_
                        refine WL_val gd0 ((o_assign (v := .bool (decide (x114 = 8))) rfl) _) rfl ?_
                        refine WL_nil ?_
                        refine nrm ?_
                        refine WC_ret ?_
                        refine rtE ?_
                        exact gv1 rfl rfl h
                      · rw [if_neg (neT hb112)] at h
                        refine WL_skip (gdN (b := x111) 80 rfl rfl hb112) rfl ?_
                        refine WL_skip (gdN (b := x111) 80 rfl rfl hb112) rfl ?_
                        refine WL_skip (gdN (b := x111) 80 rfl rfl hb112) rfl ?_
                        refine WL_val gd0 ((o_pickF (v := .bool false) rfl hb112 rfl) _) rfl ?_
                        refine WL_val gd0 ((o_assign (v := .bool false) rfl) _) rfl ?_
                        refine WL_nil ?_
                        refine nrm ?_
                        refine WC_ret ?_
                        refine rtE ?_
                        exact gv1 rfl rfl h
                    · rw [if_neg (of_decide_eq_false hb103)] at h
                      refine WL_skip (gdN (b := (decide (x102 = 0))) 74 rfl rfl hb103) rfl ?_
                      refine WL_skip (gdN (b := (decide (x102 = 0))) 74 rfl rfl hb103) rfl ?_
                      refine WL_skip (gdN (b := (decide (x102 = 0))) 74 rfl rfl hb103) rfl ?_
                      refine WL_skip (gdN (b := (decide (x102 = 0))) 74 rfl rfl hb103) rfl ?_
                      refine WL_val gd0 ((o_pickF (v := .bool false) rfl hb103 rfl) _) rfl ?_
                      refine WL_val gd0 ((o_move (v := .bool false) rfl) _) rfl ?_
                      refine WL_skip (gdN (b := false) 80 rfl rfl rfl) rfl ?_
                      refine WL_skip (gdN (b := false) 80 rfl rfl rfl) rfl ?_
                      refine WL_skip (gdN (b := false) 80 rfl rfl rfl) rfl ?_
                      refine WL_val gd0 ((o_pickF (v := .bool false) rfl rfl rfl) _) rfl ?_
                      refine WL_val gd0 ((o_assign (v := .bool false) rfl) _) rfl ?_
                      refine WL_nil ?_
                      refine nrm ?_
                      refine WC_ret ?_
                      refine rtE ?_
                      exact gv1 rfl rfl h
                  · rw [if_neg (of_decide_eq_false hb100)] at h
                    refine WL_skip (gdN (b := (decide (x99 = 1))) 68 rfl rfl hb100) rfl ?_
                    refine WL_skip (gdN (b := (decide (x99 = 1))) 68 rfl rfl hb100) rfl ?_
                    refine WL_skip (gdN (b := (decide (x99 = 1))) 68 rfl rfl hb100) rfl ?_
                    refine WL_skip (gdN (b := (decide (x99 = 1))) 68 rfl rfl hb100) rfl ?_
                    refine WL_val gd0 ((o_pickF (v := .bool false) rfl hb100 rfl) _) rfl ?_
                    refine WL_val gd0 ((o_move (v := .bool false) rfl) _) rfl ?_
                    refine WL_skip (gdN (b := false) 74 rfl rfl rfl) rfl ?_
                    refine WL_skip (gdN (b := false) 74 rfl rfl rfl) rfl ?_
                    refine WL_skip (gdN (b := false) 74 rfl rfl rfl) rfl ?_
                    refine WL_skip (gdN (b := false) 74 rfl rfl rfl) rfl ?_
                    refine WL_val gd0 ((o_pickF (v := .bool false) rfl rfl rfl) _) rfl ?_
                    refine WL_val gd0 ((o_move (v := .bool false) rfl) _) rfl ?_
                    refine WL_skip (gdN (b := false) 80 rfl rfl rfl) rfl ?_
                    refine WL_skip (gdN (b := false) 80 rfl rfl rfl) rfl ?_
                    refine WL_skip (gdN (b := false) 80 rfl rfl rfl) rfl ?_
                    refine WL_val gd0 ((o_pickF (v := .bool false) rfl rfl rfl) _) rfl ?_
                    refine WL_val gd0 ((o_assign (v := .bool false) rfl) _) rfl ?_
                    refine WL_nil ?_
                    refine nrm ?_
                    refine WC_ret ?_
                    refine rtE ?_
                    exact gv1 rfl rfl h
                · rw [if_neg (of_decide_eq_false hb87)] at h
                  refine WL_skip (gdN (b := (decide (f58 = 9))) 62 rfl rfl hb87) rfl ?_
                  refine WL_skip (gdN (b := (decide (f58 = 9))) 62 rfl rfl hb87) rfl ?_
                  refine WL_skip (gdN (b := (decide (f58 = 9))) 62 rfl rfl hb87) rfl ?_
                  refine WL_skip (gdN (b := (decide (f58 = 9))) 62 rfl rfl hb87) rfl ?_
                  refine WL_val gd0 ((o_pickF (v := .bool false) rfl hb87 rfl) _) rfl ?_
                  refine WL_val gd0 ((o_move (v := .bool false) rfl) _) rfl ?_
                  refine WL_skip (gdN (b := false) 68 rfl rfl rfl) rfl ?_
                  refine WL_skip (gdN (b := false) 68 rfl rfl rfl) rfl ?_
                  refine WL_skip (gdN (b := false) 68 rfl rfl rfl) rfl ?_
                  refine WL_skip (gdN (b := false) 68 rfl rfl rfl) rfl ?_
                  refine WL_val gd0 ((o_pickF (v := .bool false) rfl rfl rfl) _) rfl ?_
                  refine WL_val gd0 ((o_move (v := .bool false) rfl) _) rfl ?_
                  refine WL_skip (gdN (b := false) 74 rfl rfl rfl) rfl ?_
                  refine WL_skip (gdN (b := false) 74 rfl rfl rfl) rfl ?_
                  refine WL_skip (gdN (b := false) 74 rfl rfl rfl) rfl ?_
                  refine WL_skip (gdN (b := false) 74 rfl rfl rfl) rfl ?_
                  refine WL_val gd0 ((o_pickF (v := .bool false) rfl rfl rfl) _) rfl ?_
                  refine WL_val gd0 ((o_move (v := .bool false) rfl) _) rfl ?_
                  refine WL_skip (gdN (b := false) 80 rfl rfl rfl) rfl ?_
                  refine WL_skip (gdN (b := false) 80 rfl rfl rfl) rfl ?_
                  refine WL_skip (gdN (b := false) 80 rfl rfl rfl) rfl ?_
                  refine WL_val gd0 ((o_pickF (v := .bool false) rfl rfl rfl) _) rfl ?_
                  refine WL_val gd0 ((o_assign (v := .bool false) rfl) _) rfl ?_
                  refine WL_nil ?_
                  refine nrm ?_
                  refine WC_ret ?_
                  refine rtE ?_
                  exact gv1 rfl rfl h
              · rw [if_neg (of_decide_eq_false hb86)] at h
                refine WL_skip (gdN (b := (decide (e_54 = 12))) 58 rfl rfl hb86) rfl ?_
                refine WL_skip (gdN (b := (decide (e_54 = 12))) 58 rfl rfl hb86) rfl ?_
                refine WL_val gd0 ((o_pickF (v := .bool false) rfl hb86 rfl) _) rfl ?_
                refine WL_val gd0 ((o_move (v := .bool false) rfl) _) rfl ?_
                refine WL_skip (gdN (b := false) 62 rfl rfl rfl) rfl ?_
                refine WL_skip (gdN (b := false) 62 rfl rfl rfl) rfl ?_
                refine WL_skip (gdN (b := false) 62 rfl rfl rfl) rfl ?_
                refine WL_skip (gdN (b := false) 62 rfl rfl rfl) rfl ?_
                refine WL_val gd0 ((o_pickF (v := .bool false) rfl rfl rfl) _) rfl ?_
                refine WL_val gd0 ((o_move (v := .bool false) rfl) _) rfl ?_
                refine WL_skip (gdN (b := false) 68 rfl rfl rfl) rfl ?_
                refine WL_skip (gdN (b := false) 68 rfl rfl rfl) rfl ?_
                refine WL_skip (gdN (b := false) 68 rfl rfl rfl) rfl ?_
                refine WL_skip (gdN (b := false) 68 rfl rfl rfl) rfl ?_
                refine WL_val gd0 ((o_pickF (v := .bool false) rfl rfl rfl) _) rfl ?_
                refine WL_val gd0 ((o_move (v := .bool false) rfl) _) rfl ?_
                refine WL_skip (gdN (b := false) 74 rfl rfl rfl) rfl ?_
                refine WL_skip (gdN (b := false) 74 rfl rfl rfl) rfl ?_
                refine WL_skip (gdN (b := false) 74 rfl rfl rfl) rfl ?_
                refine WL_skip (gdN (b := false) 74 rfl rfl rfl) rfl ?_
                refine WL_val gd0 ((o_pickF (v := .bool false) rfl rfl rfl) _) rfl ?_
                refine WL_val gd0 ((o_move (v := .bool false) rfl) _) rfl ?_
                refine WL_skip (gdN (b := false) 80 rfl rfl rfl) rfl ?_
                refine WL_skip (gdN (b := false) 80 rfl rfl rfl) rfl ?_
                refine WL_skip (gdN (b := false) 80 rfl rfl rfl) rfl ?_
                refine WL_val gd0 ((o_pickF (v := .bool false) rfl rfl rfl) _) rfl ?_
                refine WL_val gd0 ((o_assign (v := .bool false) rfl) _) rfl ?_
                refine WL_nil ?_
                refine nrm ?_
                refine WC_ret ?_
                refine rtE ?_
                exact gv1 rfl rfl h
            · rw [if_neg (neT hb85)] at h
              refine WL_skip (gdN (b := x84) 54 rfl rfl hb85) rfl ?_
              refine WL_skip (gdN (b := x84) 54 rfl rfl hb85) rfl ?_
              refine WL_val gd0 ((o_pickF (v := .bool false) rfl hb85 rfl) _) rfl ?_
              refine WL_val gd0 ((o_move (v := .bool false) rfl) _) rfl ?_
              refine WL_skip (gdN (b := false) 58 rfl rfl rfl) rfl ?_
              refine WL_skip (gdN (b := false) 58 rfl rfl rfl) rfl ?_
              refine WL_val gd0 ((o_pickF (v := .bool false) rfl rfl rfl) _) rfl ?_
              refine WL_val gd0 ((o_move (v := .bool false) rfl) _) rfl ?_
              refine WL_skip (gdN (b := false) 62 rfl rfl rfl) rfl ?_
              refine WL_skip (gdN (b := false) 62 rfl rfl rfl) rfl ?_
              refine WL_skip (gdN (b := false) 62 rfl rfl rfl) rfl ?_
              refine WL_skip (gdN (b := false) 62 rfl rfl rfl) rfl ?_
              refine WL_val gd0 ((o_pickF (v := .bool false) rfl rfl rfl) _) rfl ?_
              refine WL_val gd0 ((o_move (v := .bool false) rfl) _) rfl ?_
              refine WL_skip (gdN (b := false) 68 rfl rfl rfl) rfl ?_
              refine WL_skip (gdN (b := false) 68 rfl rfl rfl) rfl ?_
              refine WL_skip (gdN (b := false) 68 rfl rfl rfl) rfl ?_
              refine WL_skip (gdN (b := false) 68 rfl rfl rfl) rfl ?_
              refine WL_val gd0 ((o_pickF (v := .bool false) rfl rfl rfl) _) rfl ?_
              refine WL_val gd0 ((o_move (v := .bool false) rfl) _) rfl ?_
              refine WL_skip (gdN (b := false) 74 rfl rfl rfl) rfl ?_
              refine WL_skip (gdN (b := false) 74 rfl rfl rfl) rfl ?_
              refine WL_skip (gdN (b := false) 74 rfl rfl rfl) rfl ?_
              refine WL_skip (gdN (b := false) 74 rfl rfl rfl) rfl ?_
              refine WL_val gd0 ((o_pickF (v := .bool false) rfl rfl rfl) _) rfl ?_
              refine WL_val gd0 ((o_move (v := .bool false) rfl) _) rfl ?_
              refine WL_skip (gdN (b := false) 80 rfl rfl rfl) rfl ?_
              refine WL_skip (gdN (b := false) 80 rfl rfl rfl) rfl ?_
              refine WL_skip (gdN (b := false) 80 rfl rfl rfl) rfl ?_
              refine WL_val gd0 ((o_pickF (v := .bool false) rfl rfl rfl) _) rfl ?_
              refine WL_val gd0 ((o_assign (v := .bool false) rfl) _) rfl ?_
              refine WL_nil ?_
              refine nrm ?_
              refine WC_ret ?_
              refine rtE ?_
              exact gv1 rfl rfl h
          · rw [if_neg (neT hb62)] at h
            refine WL_skip (gdN (b := r48) 49 rfl rfl hb62) rfl ?_
            refine WL_skip (gdN (b := r48) 49 rfl rfl hb62) rfl ?_
            refine WL_skip (gdN (b := r48) 49 rfl rfl hb62) rfl ?_
            refine WL_val gd0 ((o_pickF (v := .bool false) rfl hb62 rfl) _) rfl ?_
            refine WL_val gd0 ((o_move (v := .bool false) rfl) _) rfl ?_
            refine WL_skip (gdN (b := false) 54 rfl rfl rfl) rfl ?_
            refine WL_skip (gdN (b := false) 54 rfl rfl rfl) rfl ?_
            refine WL_val gd0 ((o_pickF (v := .bool false) rfl rfl rfl) _) rfl ?_
            refine WL_val gd0 ((o_move (v := .bool false) rfl) _) rfl ?_
            refine WL_skip (gdN (b := false) 58 rfl rfl rfl) rfl ?_
            refine WL_skip (gdN (b := false) 58 rfl rfl rfl) rfl ?_
            refine WL_val gd0 ((o_pickF (v := .bool false) rfl rfl rfl) _) rfl ?_
            refine WL_val gd0 ((o_move (v := .bool false) rfl) _) rfl ?_
            refine WL_skip (gdN (b := false) 62 rfl rfl rfl) rfl ?_
            refine WL_skip (gdN (b := false) 62 rfl rfl rfl) rfl ?_
            refine WL_skip (gdN (b := false) 62 rfl rfl rfl) rfl ?_
            refine WL_skip (gdN (b := false) 62 rfl rfl rfl) rfl ?_
            refine WL_val gd0 ((o_pickF (v := .bool false) rfl rfl rfl) _) rfl ?_
            refine WL_val gd0 ((o_move (v := .bool false) rfl) _) rfl ?_
            refine WL_skip (gdN (b := false) 68 rfl rfl rfl) rfl ?_
            refine WL_skip (gdN (b := false) 68 rfl rfl rfl) rfl ?_
            refine WL_skip (gdN (b := false) 68 rfl rfl rfl) rfl ?_
            refine WL_skip (gdN (b := false) 68 rfl rfl rfl) rfl ?_
            refine WL_val gd0 ((o_pickF (v := .bool false) rfl rfl rfl) _) rfl ?_
            refine WL_val gd0 ((o_move (v := .bool false) rfl) _) rfl ?_
            refine WL_skip (gdN (b := false) 74 rfl rfl rfl) rfl ?_
            refine WL_skip (gdN (b := false) 74 rfl rfl rfl) rfl ?_
            refine WL_skip (gdN (b := false) 74 rfl rfl rfl) rfl ?_
            refine WL_skip (gdN (b := false) 74 rfl rfl rfl) rfl ?_
            refine WL_val gd0 ((o_pickF (v := .bool false) rfl rfl rfl) _) rfl ?_
            refine WL_val gd0 ((o_move (v := .bool false) rfl) _) rfl ?_
            refine WL_skip (gdN (b := false) 80 rfl rfl rfl) rfl ?_
            refine WL_skip (gdN (b := false) 80 rfl rfl rfl) rfl ?_
            refine WL_skip (gdN (b := false) 80 rfl rfl rfl) rfl ?_
            refine WL_val gd0 ((o_pickF (v := .bool false) rfl rfl rfl) _) rfl ?_
            refine WL_val gd0 ((o_assign (v := .bool false) rfl) _) rfl ?_
            refine WL_nil ?_
            refine nrm ?_
            refine WC_ret ?_
            refine rtE ?_
            exact gv1 rfl rfl h
        · rw [if_neg (of_decide_eq_false hb61)] at h
          refine WL_skip (gdN (b := (decide (c37 = 0))) 46 rfl rfl hb61) rfl ?_
          refine WL_val gd0 ((o_pickF (v := .bool false) rfl hb61 rfl) _) rfl ?_
          refine WL_val gd0 ((o_move (v := .bool false) rfl) _) rfl ?_
          refine WL_skip (gdN (b := false) 49 rfl rfl rfl) rfl ?_
          refine WL_skip (gdN (b := false) 49 rfl rfl rfl) rfl ?_
          refine WL_skip (gdN (b := false) 49 rfl rfl rfl) rfl ?_
          refine WL_val gd0 ((o_pickF (v := .bool false) rfl rfl rfl) _) rfl ?_
          refine WL_val gd0 ((o_move (v := .bool false) rfl) _) rfl ?_
          refine WL_skip (gdN (b := false) 54 rfl rfl rfl) rfl ?_
          refine WL_skip (gdN (b := false) 54 rfl rfl rfl) rfl ?_
          refine WL_val gd0 ((o_pickF (v := .bool false) rfl rfl rfl) _) rfl ?_
          refine WL_val gd0 ((o_move (v := .bool false) rfl) _) rfl ?_
          refine WL_skip (gdN (b := false) 58 rfl rfl rfl) rfl ?_
          refine WL_skip (gdN (b := false) 58 rfl rfl rfl) rfl ?_
          refine WL_val gd0 ((o_pickF (v := .bool false) rfl rfl rfl) _) rfl ?_
          refine WL_val gd0 ((o_move (v := .bool false) rfl) _) rfl ?_
          refine WL_skip (gdN (b := false) 62 rfl rfl rfl) rfl ?_
          refine WL_skip (gdN (b := false) 62 rfl rfl rfl) rfl ?_
          refine WL_skip (gdN (b := false) 62 rfl rfl rfl) rfl ?_
          refine WL_skip (gdN (b := false) 62 rfl rfl rfl) rfl ?_
          refine WL_val gd0 ((o_pickF (v := .bool false) rfl rfl rfl) _) rfl ?_
          refine WL_val gd0 ((o_move (v := .bool false) rfl) _) rfl ?_
          refine WL_skip (gdN (b := false) 68 rfl rfl rfl) rfl ?_
          refine WL_skip (gdN (b := false) 68 rfl rfl rfl) rfl ?_
          refine WL_skip (gdN (b := false) 68 rfl rfl rfl) rfl ?_
          refine WL_skip (gdN (b := false) 68 rfl rfl rfl) rfl ?_
          refine WL_val gd0 ((o_pickF (v := .bool false) rfl rfl rfl) _) rfl ?_
          refine WL_val gd0 ((o_move (v := .bool false) rfl) _) rfl ?_
          refine WL_skip (gdN (b := false) 74 rfl rfl rfl) rfl ?_
          refine WL_skip (gdN (b := false) 74 rfl rfl rfl) rfl ?_
          refine WL_skip (gdN (b := false) 74 rfl rfl rfl) rfl ?_
          refine WL_skip (gdN (b := false) 74 rfl rfl rfl) rfl ?_
          refine WL_val gd0 ((o_pickF (v := .bool false) rfl rfl rfl) _) rfl ?_
          refine WL_val gd0 ((o_move (v := .bool false) rfl) _) rfl ?_
          refine WL_skip (gdN (b := false) 80 rfl rfl rfl) rfl ?_
          refine WL_skip (gdN (b := false) 80 rfl rfl rfl) rfl ?_
          refine WL_skip (gdN (b := false) 80 rfl rfl rfl) rfl ?_
          refine WL_val gd0 ((o_pickF (v := .bool false) rfl rfl rfl) _) rfl ?_
          refine WL_val gd0 ((o_assign (v := .bool false) rfl) _) rfl ?_
          refine WL_nil ?_
          refine nrm ?_
          refine WC_ret ?_
          refine rtE ?_
          exact gv1 rfl rfl h
      · rw [if_neg (neT hb60)] at h
        refine WL_skip (gdN (b := (!r31)) 42 rfl rfl hb60) rfl ?_
        refine WL_skip (gdN (b := (!r31)) 42 rfl rfl hb60) rfl ?_
        refine WL_val gd0 ((o_pickF (v := .bool false) rfl hb60 rfl) _) rfl ?_
        refine WL_val gd0 ((o_move (v := .bool false) rfl) _) rfl ?_
        refine WL_skip (gdN (b := false) 46 rfl rfl rfl) rfl ?_
        refine WL_val gd0 ((o_pickF (v := .bool false) rfl rfl rfl) _) rfl ?_
        refine WL_val gd0 ((o_move (v := .bool false) rfl) _) rfl ?_
        refine WL_skip (gdN (b := false) 49 rfl rfl rfl) rfl ?_
        refine WL_skip (gdN (b := false) 49 rfl rfl rfl) rfl ?_
        refine WL_skip (gdN (b := false) 49 rfl rfl rfl) rfl ?_
        refine WL_val gd0 ((o_pickF (v := .bool false) rfl rfl rfl) _) rfl ?_
        refine WL_val gd0 ((o_move (v := .bool false) rfl) _) rfl ?_
        refine WL_skip (gdN (b := false) 54 rfl rfl rfl) rfl ?_
        refine WL_skip (gdN (b := false) 54 rfl rfl rfl) rfl ?_
        refine WL_val gd0 ((o_pickF (v := .bool false) rfl rfl rfl) _) rfl ?_
        refine WL_val gd0 ((o_move (v := .bool false) rfl) _) rfl ?_
        refine WL_skip (gdN (b := false) 58 rfl rfl rfl) rfl ?_
        refine WL_skip (gdN (b := false) 58 rfl rfl rfl) rfl ?_
        refine WL_val gd0 ((o_pickF (v := .bool false) rfl rfl rfl) _) rfl ?_
        refine WL_val gd0 ((o_move (v := .bool false) rfl) _) rfl ?_
        refine WL_skip (gdN (b := false) 62 rfl rfl rfl) rfl ?_
        refine WL_skip (gdN (b := false) 62 rfl rfl rfl) rfl ?_
        refine WL_skip (gdN (b := false) 62 rfl rfl rfl) rfl ?_
        refine WL_skip (gdN (b := false) 62 rfl rfl rfl) rfl ?_
        refine WL_val gd0 ((o_pickF (v := .bool false) rfl rfl rfl) _) rfl ?_
        refine WL_val gd0 ((o_move (v := .bool false) rfl) _) rfl ?_
        refine WL_skip (gdN (b := false) 68 rfl rfl rfl) rfl ?_
        refine WL_skip (gdN (b := false) 68 rfl rfl rfl) rfl ?_
        refine WL_skip (gdN (b := false) 68 rfl rfl rfl) rfl ?_
        refine WL_skip (gdN (b := false) 68 rfl rfl rfl) rfl ?_
        refine WL_val gd0 ((o_pickF (v := .bool false) rfl rfl rfl) _) rfl ?_
        refine WL_val gd0 ((o_move (v := .bool false) rfl) _) rfl ?_
        refine WL_skip (gdN (b := false) 74 rfl rfl rfl) rfl ?_
        refine WL_skip (gdN (b := false) 74 rfl rfl rfl) rfl ?_
        refine WL_skip (gdN (b := false) 74 rfl rfl rfl) rfl ?_
        refine WL_skip (gdN (b := false) 74 rfl rfl rfl) rfl ?_
        refine WL_val gd0 ((o_pickF (v := .bool false) rfl rfl rfl) _) rfl ?_
        refine WL_val gd0 ((o_move (v := .bool false) rfl) _) rfl ?_
        refine WL_skip (gdN (b := false) 80 rfl rfl rfl) rfl ?_
        refine WL_skip (gdN (b := false) 80 rfl rfl rfl) rfl ?_
        refine WL_skip (gdN (b := false) 80 rfl rfl rfl) rfl ?_
        refine WL_val gd0 ((o_pickF (v := .bool false) rfl rfl rfl) _) rfl ?_
        refine WL_val gd0 ((o_assign (v := .bool false) rfl) _) rfl ?_
        refine WL_nil ?_
        refine nrm ?_
        refine WC_ret ?_
        refine rtE ?_
        exact gv1 rfl rfl h
    · rw [if_neg (of_decide_eq_false hb59)] at h
      refine WL_skip (gdN (b := (decide (a20 = 0))) 38 rfl rfl hb59) rfl ?_
      refine WL_skip (gdN (b := (decide (a20 = 0))) 38 rfl rfl hb59) rfl ?_
      refine WL_val gd0 ((o_pickF (v := .bool false) rfl hb59 rfl) _) rfl ?_
      refine WL_val gd0 ((o_move (v := .bool false) rfl) _) rfl ?_
      refine WL_skip (gdN (b := false) 42 rfl rfl rfl) rfl ?_
      refine WL_skip (gdN (b := false) 42 rfl rfl rfl) rfl ?_
      refine WL_val gd0 ((o_pickF (v := .bool false) rfl rfl rfl) _) rfl ?_
      refine WL_val gd0 ((o_move (v := .bool false) rfl) _) rfl ?_
      refine WL_skip (gdN (b := false) 46 rfl rfl rfl) rfl ?_
      refine WL_val gd0 ((o_pickF (v := .bool false) rfl rfl rfl) _) rfl ?_
      refine WL_val gd0 ((o_move (v := .bool false) rfl) _) rfl ?_
      refine WL_skip (gdN (b := false) 49 rfl rfl rfl) rfl ?_
      refine WL_skip (gdN (b := false) 49 rfl rfl rfl) rfl ?_
      refine WL_skip (gdN (b := false) 49 rfl rfl rfl) rfl ?_
      refine WL_val gd0 ((o_pickF (v := .bool false) rfl rfl rfl) _) rfl ?_
      refine WL_val gd0 ((o_move (v := .bool false) rfl) _) rfl ?_
      refine WL_skip (gdN (b := false) 54 rfl rfl rfl) rfl ?_
      refine WL_skip (gdN (b := false) 54 rfl rfl rfl) rfl ?_
      refine WL_val gd0 ((o_pickF (v := .bool false) rfl rfl rfl) _) rfl ?_
      refine WL_val gd0 ((o_move (v := .bool false) rfl) _) rfl ?_
      refine WL_skip (gdN (b := false) 58 rfl rfl rfl) rfl ?_
      refine WL_skip (gdN (b := false) 58 rfl rfl rfl) rfl ?_
      refine WL_val gd0 ((o_pickF (v := .bool false) rfl rfl rfl) _) rfl ?_
      refine WL_val gd0 ((o_move (v := .bool false) rfl) _) rfl ?_
      refine WL_skip (gdN (b := false) 62 rfl rfl rfl) rfl ?_
      refine WL_skip (gdN (b := false) 62 rfl rfl rfl) rfl ?_
      refine WL_skip (gdN (b := false) 62 rfl rfl rfl) rfl ?_
      refine WL_skip (gdN (b := false) 62 rfl rfl rfl) rfl ?_
      refine WL_val gd0 ((o_pickF (v := .bool false) rfl rfl rfl) _) rfl ?_
      refine WL_val gd0 ((o_move (v := .bool false) rfl) _) rfl ?_
      refine WL_skip (gdN (b := false) 68 rfl rfl rfl) rfl ?_
      refine WL_skip (gdN (b := false) 68 rfl rfl rfl) rfl ?_
      refine WL_skip (gdN (b := false) 68 rfl rfl rfl) rfl ?_
      refine WL_skip (gdN (b := false) 68 rfl rfl rfl) rfl ?_
      refine WL_val gd0 ((o_pickF (v := .bool false) rfl rfl rfl) _) rfl ?_
      refine WL_val gd0 ((o_move (v := .bool false) rfl) _) rfl ?_
      refine WL_skip (gdN (b := false) 74 rfl rfl rfl) rfl ?_
      refine WL_skip (gdN (b := false) 74 rfl rfl rfl) rfl ?_
      refine WL_skip (gdN (b := false) 74 rfl rfl rfl) rfl ?_
      refine WL_skip (gdN (b := false) 74 rfl rfl rfl) rfl ?_
      refine WL_val gd0 ((o_pickF (v := .bool false) rfl rfl rfl) _) rfl ?_
      refine WL_val gd0 ((o_move (v := .bool false) rfl) _) rfl ?_
      refine WL_skip (gdN (b := false) 80 rfl rfl rfl) rfl ?_
      refine WL_skip (gdN (b := false) 80 rfl rfl rfl) rfl ?_
      refine WL_skip (gdN (b := false) 80 rfl rfl rfl) rfl ?_
      refine WL_val gd0 ((o_pickF (v := .bool false) rfl rfl rfl) _) rfl ?_
      refine WL_val gd0 ((o_assign (v := .bool false) rfl) _) rfl ?_
      refine WL_nil ?_
      refine nrm ?_
      refine WC_ret ?_
      refine rtE ?_
      exact gv1 rfl rfl h

/-- spacecraft spacecraftlaw37.step -/
def F10 (t1 : Option Addr) (x2 : Option Addr) (s3 : Int) (s4 : Int) (s5 : Bool) (s6 : Int) (s7 : Int) (s8 : Int) (s_a9 : Option Addr) (s_n10 : Nat) (s_c11 : Nat) (s_a12 : Option Addr) (s_n13 : Nat) (s_c14 : Nat) (w15 : World) (k : Value → World → Prop) : Prop :=
  New w15 38 [.int .u8 s3, .int .i64 s4, .bool s5, .int .i64 s6, .int .i64 s7, .int .i64 s8, .slice s_a9 s_n10 s_c11, .slice s_a12 s_n13 s_c14] (fun p16 w17 => ∃ (x18 : Int), w17.cell? p16 = some (.int .u8 x18) ∧ if (Int.tmod x18 4) = 1 then
  ∃ (x21 : Int), w17.drew.cell? (p16.add 1) = some (.int .i64 x21) ∧ ∃ (x23 x24 x25 : Int) (x_a26 : Option Addr) (x_n27 x_c28 : Nat) (x_a29 : Option Addr) (x_n30 x_c31 : Nat), Cells w17.drew (p16.add 3) 0 [.int .i64 x23, .int .i64 x24, .int .i64 x25, .slice x_a26 x_n27 x_c28, .slice x_a29 x_n30 x_c31] ∧ ∃ (x33 : Int), w17.drew.cell? (p16.add 1) = some (.int .i64 x33) ∧ ∃ (x35 x36 x37 : Int) (x_a38 : Option Addr) (x_n39 x_c40 : Nat) (x_a41 : Option Addr) (x_n42 x_c43 : Nat), Cells w17.drew (p16.add 3) 0 [.int .i64 x35, .int .i64 x36, .int .i64 x37, .slice x_a38 x_n39 x_c40, .slice x_a41 x_n42 x_c43] ∧ Does Try.prog 13 #[.pointer t1, .int .i64 x21, .agg #[.int .i64 x23, .int .i64 x24, .int .i64 x25, .slice x_a26 x_n27 x_c28, .slice x_a29 x_n30 x_c31]] w17.drew (fun v w45 => ∃ (x46 : Int), v = .int .i64 x46 ∧ w45.cell? (p16.add 1) = some (.int .i64 x33) ∧ Cells w45 (p16.add 3) 0 [.int .i64 x35, .int .i64 x36, .int .i64 x37, .slice x_a38 x_n39 x_c40, .slice x_a41 x_n42 x_c43] ∧ Does Try.prog 20 #[.pointer x2, .int .i64 x33, .agg #[.int .i64 x35, .int .i64 x36, .int .i64 x37, .slice x_a38 x_n39 x_c40, .slice x_a41 x_n42 x_c43]] w45 (fun v w49 => ∃ (x50 : Int), v = .int .i64 x50 ∧ k (.bool (decide (x46 = x50))) w49))
else
  if (Int.tmod x18 4) = 2 then
    ∃ (x52 : Int), w17.drew.cell? (p16.add 1) = some (.int .i64 x52) ∧ ∃ (x54 : Bool), w17.drew.cell? (p16.add 2) = some (.bool x54) ∧ ∃ (x56 : Int), w17.drew.cell? (p16.add 1) = some (.int .i64 x56) ∧ ∃ (x58 : Bool), w17.drew.cell? (p16.add 2) = some (.bool x58) ∧ Does Try.prog 15 #[.pointer t1, .int .i64 x52, .bool x54] w17.drew (fun v w60 => ∃ (x61 : Int), v = .int .i64 x61 ∧ w60.cell? (p16.add 1) = some (.int .i64 x56) ∧ w60.cell? (p16.add 2) = some (.bool x58) ∧ Does Try.prog 21 #[.pointer x2, .int .i64 x56, .bool x58] w60 (fun v w64 => ∃ (x65 : Int), v = .int .i64 x65 ∧ k (.bool (decide (x61 = x65))) w64))
  else
    if (Int.tmod x18 4) = 3 then
      ∃ (x67 : Int), w17.drew.cell? (p16.add 1) = some (.int .i64 x67) ∧ ∃ (x69 : Int), w17.drew.cell? (p16.add 1) = some (.int .i64 x69) ∧ Does Try.prog 14 #[.pointer t1, .int .i64 x67] w17.drew (fun v w71 => ∃ (x72 : Int), v = .int .i64 x72 ∧ w71.cell? (p16.add 1) = some (.int .i64 x69) ∧ Does Try.prog 22 #[.pointer x2, .int .i64 x69] w71 (fun v w74 => ∃ (x75 : Int), v = .int .i64 x75 ∧ k (.bool (decide (x72 = x75))) w74))
    else
      ∃ (x76 : Int), w17.cell? (p16.add 1) = some (.int .i64 x76) ∧ Does Try.prog 16 #[.pointer t1, .int .i64 x76] w17 (fun v w78 => ∃ (r79 r80 r81 : Int) (r_a82 : Option Addr) (r_n83 r_c84 : Nat) (r_a85 : Option Addr) (r_n86 r_c87 : Nat) (r88 : Bool), v = .tuple #[.agg #[.int .i64 r79, .int .i64 r80, .int .i64 r81, .slice r_a82 r_n83 r_c84, .slice r_a85 r_n86 r_c87], .bool r88] ∧ New w78 36 [.int .i64 0, .int .i64 0, .int .i64 0, .slice none 0 0, .slice none 0 0] (fun p89 w90 => PutAll w90 p89 [.int .i64 r79, .int .i64 r80, .int .i64 r81, .slice r_a82 r_n83 r_c84, .slice r_a85 r_n86 r_c87] (fun w91 => ∃ (x93 : Int), w91.cell? (p16.add 1) = some (.int .i64 x93) ∧ Does Try.prog 23 #[.pointer x2, .int .i64 x93] w91 (fun v w95 => ∃ (r96 r97 r98 : Int) (r_a99 : Option Addr) (r_n100 r_c101 : Nat) (r_a102 : Option Addr) (r_n103 r_c104 : Nat) (r105 : Bool), v = .tuple #[.agg #[.int .i64 r96, .int .i64 r97, .int .i64 r98, .slice r_a99 r_n100 r_c101, .slice r_a102 r_n103 r_c104], .bool r105] ∧ New w95 36 [.int .i64 0, .int .i64 0, .int .i64 0, .slice none 0 0, .slice none 0 0] (fun p106 w107 => PutAll w107 p106 [.int .i64 r96, .int .i64 r97, .int .i64 r98, .slice r_a99 r_n100 r_c101, .slice r_a102 r_n103 r_c104] (fun w108 => ∃ (x110 x111 x112 : Int) (x_a113 : Option Addr) (x_n114 x_c115 : Nat) (x_a116 : Option Addr) (x_n117 x_c118 : Nat), Cells w108 p89 0 [.int .i64 x110, .int .i64 x111, .int .i64 x112, .slice x_a113 x_n114 x_c115, .slice x_a116 x_n117 x_c118] ∧ ∃ (x120 x121 x122 : Int) (x_a123 : Option Addr) (x_n124 x_c125 : Nat) (x_a126 : Option Addr) (x_n127 x_c128 : Nat), Cells w108 p106 0 [.int .i64 x120, .int .i64 x121, .int .i64 x122, .slice x_a123 x_n124 x_c125, .slice x_a126 x_n127 x_c128] ∧ Does Try.prog 17 #[.agg #[.int .i64 x110, .int .i64 x111, .int .i64 x112, .slice x_a113 x_n114 x_c115, .slice x_a116 x_n117 x_c118], .agg #[.int .i64 x120, .int .i64 x121, .int .i64 x122, .slice x_a123 x_n124 x_c125, .slice x_a126 x_n127 x_c128]] w108 (fun v w130 => ∃ (x131 : Bool), v = .bool x131 ∧ if x131 = true then
        k (.bool (r88 == r105)) w130
      else
        k (.bool false) w130))))))))
set_option maxRecDepth 100000 in
set_option maxHeartbeats 2000000 in
theorem w10 (t1 : Option Addr) (x2 : Option Addr) (s3 : Int) (s4 : Int) (s5 : Bool) (s6 : Int) (s7 : Int) (s8 : Int) (s_a9 : Option Addr) (s_n10 : Nat) (s_c11 : Nat) (s_a12 : Option Addr) (s_n13 : Nat) (s_c14 : Nat) (w15 : World) (k : Value → World → Prop) (h : F10 t1 x2 s3 s4 s5 s6 s7 s8 s_a9 s_n10 s_c11 s_a12 s_n13 s_c14 w15 k) : Does Try.prog 10 #[.pointer t1, .pointer x2, .agg #[.int .u8 s3, .int .i64 s4, .bool s5, .int .i64 s6, .int .i64 s7, .int .i64 s8, .slice s_a9 s_n10 s_c11, .slice s_a12 s_n13 s_c14]] w15 k := by
  refine enter 77 Try.func10 rfl rfl rfl ?_
  intro ρ hρ
  have e0 := hρ 0 _ rfl
  have e1 := hρ 1 _ rfl
  have e2 := hρ 2 _ rfl
  unfold F10 at h
  refine WC_seq ?_
  refine WC_region ?_
  have h := New.out h
  refine WL_val gd0 (o_box (v := .agg #[.int .u8 s3, .int .i64 s4, .bool s5, .int .i64 s6, .int .i64 s7, .int .i64 s8, .slice s_a9 s_n10 s_c11, .slice s_a12 s_n13 s_c14]) (cs := [.int .u8 s3, .int .i64 s4, .bool s5, .int .i64 s6, .int .i64 s7, .int .i64 s8, .slice s_a9 s_n10 s_c11, .slice s_a12 s_n13 s_c14]) (by exact e2) rfl) rfl ?_
  generalize hp16 : fresh w15 = p16 at h ⊢
  generalize hw17 : push w15 38 [.int .u8 s3, .int .i64 s4, .bool s5, .int .i64 s6, .int .i64 s7, .int .i64 s8, .slice s_a9 s_n10 s_c11, .slice s_a12 s_n13 s_c14] = w17 at h ⊢
  try dsimp only at h
  refine WL_val gd0 ((o_assign (v := .bool false) rfl) _) rfl ?_
  refine WL_nil ?_
  refine nrm ?_
  refine WC_seq ?_
  refine WC_seq ?_
  refine WC_region ?_
  refine WL_val gd0 ((o_fieldAddr0 Try.underlying38 rfl Try.sizeOf5 rfl rfl rfl) _) rfl ?_
  obtain ⟨x18, hc19, h⟩ := h
  refine WL_val gd0 (o_load Try.isAgg5 rfl hc19) rfl ?_
  refine WL_val gd0 ((fun w => o_rem rfl rfl w (by decide)) _) rfl ?_
  refine WL_nil ?_
  refine nrm ?_
  refine WC_block ?_
  refine WC_seq ?_
  refine WC_region ?_
  refine WL_val gd0 ((o_eql rfl rfl) _) rfl ?_
  refine WL_val gd0 ((o_assign (v := .bool (decide ((Int.tmod x18 4) = 1))) rfl) _) rfl ?_
  refine WL_nil ?_
  refine nrm ?_
  refine WC_cond (t := (decide ((Int.tmod x18 4) = 1))) rfl (fun hb20 => ?_) (fun hb20 => ?_)
  · rw [if_pos (of_decide_eq_true hb20)] at h
    refine WC_seq ?_
    refine WC_draws [5, 11] (.look 0 (.look 1 (.look 2 (.look 3 (.look 4 (.look 6 (.look 7 (.look 8 (.look 9 (.look 10 (.act 5 (.act 11 (.look 12 (.look 13 .nil)))))))))))))) Try.mixed (by kernel_rfl) ?_
    refine WQ_val rfl gd0 (o_move (v := .pointer t1) (by exact e0)) rfl ?_
    refine WQ_val rfl gd0 (o_fieldAddr 1 Try.underlying38 rfl Try.sizeOf3 rfl rfl rfl) rfl ?_
    obtain ⟨x21, hc22, h⟩ := h
    refine WQ_look (fun w => w.cell? (p16.add 1) = some (.int .i64 x21)) rfl gd0 (fun w hc => (o_load Try.isAgg3 rfl hc)) hc22 rfl ?_
    refine WQ_val rfl gd0 (o_fieldAddr 3 Try.underlying38 rfl Try.sizeOf36 rfl rfl rfl) rfl ?_
    obtain ⟨x23, x24, x25, x_a26, x_n27, x_c28, x_a29, x_n30, x_c31, hc32, h⟩ := h
    refine WQ_look (fun w => Cells w (p16.add 3) 0 [.int .i64 x23, .int .i64 x24, .int .i64 x25, .slice x_a26 x_n27 x_c28, .slice x_a29 x_n30 x_c31]) rfl gd0 (fun w hc => (o_loadAgg (vs := [.int .i64 x23, .int .i64 x24, .int .i64 x25, .slice x_a26 x_n27 x_c28, .slice x_a29 x_n30 x_c31]) Try.isAgg36 Try.sizeOf36 rfl hc)) hc32 rfl ?_
    refine WQ_val rfl gd0 (o_move (v := .pointer x2) (by exact e1)) rfl ?_
    refine WQ_val rfl gd0 (o_fieldAddr 1 Try.underlying38 rfl Try.sizeOf3 rfl rfl rfl) rfl ?_
    obtain ⟨x33, hc34, h⟩ := h
    refine WQ_look (fun w => w.cell? (p16.add 1) = some (.int .i64 x33)) rfl gd0 (fun w hc => (o_load Try.isAgg3 rfl hc)) hc34 rfl ?_
    refine WQ_val rfl gd0 (o_fieldAddr 3 Try.underlying38 rfl Try.sizeOf36 rfl rfl rfl) rfl ?_
    obtain ⟨x35, x36, x37, x_a38, x_n39, x_c40, x_a41, x_n42, x_c43, hc44, h⟩ := h
    refine WQ_look (fun w => Cells w (p16.add 3) 0 [.int .i64 x35, .int .i64 x36, .int .i64 x37, .slice x_a38 x_n39 x_c40, .slice x_a41 x_n42 x_c43]) rfl gd0 (fun w hc => (o_loadAgg (vs := [.int .i64 x35, .int .i64 x36, .int .i64 x37, .slice x_a38 x_n39 x_c40, .slice x_a41 x_n42 x_c43]) Try.isAgg36 Try.sizeOf36 rfl hc)) hc44 rfl ?_
    refine WQ_call rfl gd0 (o_call Try.call13 (argCons rfl (argCons rfl (argCons rfl argNil))) _) rfl (h.mono ?_)
    rintro _ w45 ⟨x46, rfl, hh47, hh48, h⟩
    refine ⟨⟨⟨⟨⟨trivial, depT (by kernel_rfl)⟩, depT (by kernel_rfl)⟩, fun _ => hh47⟩, fun _ => hh48⟩, ?_⟩
    refine WQ_call rfl gd0 (o_call Try.call20 (argCons rfl (argCons rfl (argCons rfl argNil))) _) rfl (h.mono ?_)
    rintro _ w49 ⟨x50, rfl, h⟩
    refine ⟨⟨⟨⟨⟨trivial, depT (by kernel_rfl)⟩, depT (by kernel_rfl)⟩, depT (by kernel_rfl)⟩, depT (by kernel_rfl)⟩, ?_⟩
    refine WQ_val rfl gd0 (o_eql rfl rfl) rfl ?_
    refine WQ_val rfl gd0 (o_assign (v := .bool (decide (x46 = x50))) rfl) rfl ?_
    refine WQ_nil ?_
    refine nrm ?_
    refine WC_ret ?_
    refine rtB ?_
    refine rtT ?_
    refine rtE ?_
    exact gv1 rfl rfl h
  · rw [if_neg (of_decide_eq_false hb20)] at h
    refine WC_seq ?_
    refine WC_region ?_
    refine WL_val gd0 ((o_eql rfl rfl) _) rfl ?_
    refine WL_val gd0 ((o_assign (v := .bool (decide ((Int.tmod x18 4) = 2))) rfl) _) rfl ?_
    refine WL_nil ?_
    refine nrm ?_
    refine WC_cond (t := (decide ((Int.tmod x18 4) = 2))) rfl (fun hb51 => ?_) (fun hb51 => ?_)
    · rw [if_pos (of_decide_eq_true hb51)] at h
      refine WC_seq ?_
      refine WC_draws [5, 11] (.look 0 (.look 1 (.look 2 (.look 3 (.look 4 (.look 6 (.look 7 (.look 8 (.look 9 (.look 10 (.act 5 (.act 11 (.look 12 (.look 13 .nil)))))))))))))) Try.mixed (by kernel_rfl) ?_
      refine WQ_val rfl gd0 (o_move (v := .pointer t1) (by exact e0)) rfl ?_
      refine WQ_val rfl gd0 (o_fieldAddr 1 Try.underlying38 rfl Try.sizeOf3 rfl rfl rfl) rfl ?_
      obtain ⟨x52, hc53, h⟩ := h
      refine WQ_look (fun w => w.cell? (p16.add 1) = some (.int .i64 x52)) rfl gd0 (fun w hc => (o_load Try.isAgg3 rfl hc)) hc53 rfl ?_
      refine WQ_val rfl gd0 (o_fieldAddr 2 Try.underlying38 rfl Try.sizeOf4 rfl rfl rfl) rfl ?_
      obtain ⟨x54, hc55, h⟩ := h
      refine WQ_look (fun w => w.cell? (p16.add 2) = some (.bool x54)) rfl gd0 (fun w hc => (o_load Try.isAgg4 rfl hc)) hc55 rfl ?_
      refine WQ_val rfl gd0 (o_move (v := .pointer x2) (by exact e1)) rfl ?_
      refine WQ_val rfl gd0 (o_fieldAddr 1 Try.underlying38 rfl Try.sizeOf3 rfl rfl rfl) rfl ?_
      obtain ⟨x56, hc57, h⟩ := h
      refine WQ_look (fun w => w.cell? (p16.add 1) = some (.int .i64 x56)) rfl gd0 (fun w hc => (o_load Try.isAgg3 rfl hc)) hc57 rfl ?_
      refine WQ_val rfl gd0 (o_fieldAddr 2 Try.underlying38 rfl Try.sizeOf4 rfl rfl rfl) rfl ?_
      obtain ⟨x58, hc59, h⟩ := h
      refine WQ_look (fun w => w.cell? (p16.add 2) = some (.bool x58)) rfl gd0 (fun w hc => (o_load Try.isAgg4 rfl hc)) hc59 rfl ?_
      refine WQ_call rfl gd0 (o_call Try.call15 (argCons rfl (argCons rfl (argCons rfl argNil))) _) rfl (h.mono ?_)
      rintro _ w60 ⟨x61, rfl, hh62, hh63, h⟩
      refine ⟨⟨⟨⟨⟨trivial, depT (by kernel_rfl)⟩, depT (by kernel_rfl)⟩, fun _ => hh62⟩, fun _ => hh63⟩, ?_⟩
      refine WQ_call rfl gd0 (o_call Try.call21 (argCons rfl (argCons rfl (argCons rfl argNil))) _) rfl (h.mono ?_)
      rintro _ w64 ⟨x65, rfl, h⟩
      refine ⟨⟨⟨⟨⟨trivial, depT (by kernel_rfl)⟩, depT (by kernel_rfl)⟩, depT (by kernel_rfl)⟩, depT (by kernel_rfl)⟩, ?_⟩
      refine WQ_val rfl gd0 (o_eql rfl rfl) rfl ?_
      refine WQ_val rfl gd0 (o_assign (v := .bool (decide (x61 = x65))) rfl) rfl ?_
      refine WQ_nil ?_
      refine nrm ?_
      refine WC_ret ?_
      refine rtB ?_
      refine rtT ?_
      refine rtE ?_
      exact gv1 rfl rfl h
    · rw [if_neg (of_decide_eq_false hb51)] at h
      refine WC_seq ?_
      refine WC_region ?_
      refine WL_val gd0 ((o_eql rfl rfl) _) rfl ?_
      refine WL_val gd0 ((o_assign (v := .bool (decide ((Int.tmod x18 4) = 3))) rfl) _) rfl ?_
      refine WL_nil ?_
      refine nrm ?_
      refine WC_cond (t := (decide ((Int.tmod x18 4) = 3))) rfl (fun hb66 => ?_) (fun hb66 => ?_)
      · rw [if_pos (of_decide_eq_true hb66)] at h
        refine WC_seq ?_
        refine WC_draws [3, 7] (.look 0 (.look 1 (.look 2 (.look 4 (.look 5 (.look 6 (.act 3 (.act 7 (.look 8 (.look 9 .nil)))))))))) Try.mixed (by kernel_rfl) ?_
        refine WQ_val rfl gd0 (o_move (v := .pointer t1) (by exact e0)) rfl ?_
        refine WQ_val rfl gd0 (o_fieldAddr 1 Try.underlying38 rfl Try.sizeOf3 rfl rfl rfl) rfl ?_
        obtain ⟨x67, hc68, h⟩ := h
        refine WQ_look (fun w => w.cell? (p16.add 1) = some (.int .i64 x67)) rfl gd0 (fun w hc => (o_load Try.isAgg3 rfl hc)) hc68 rfl ?_
        refine WQ_val rfl gd0 (o_move (v := .pointer x2) (by exact e1)) rfl ?_
        refine WQ_val rfl gd0 (o_fieldAddr 1 Try.underlying38 rfl Try.sizeOf3 rfl rfl rfl) rfl ?_
        obtain ⟨x69, hc70, h⟩ := h
        refine WQ_look (fun w => w.cell? (p16.add 1) = some (.int .i64 x69)) rfl gd0 (fun w hc => (o_load Try.isAgg3 rfl hc)) hc70 rfl ?_
        refine WQ_call rfl gd0 (o_call Try.call14 (argCons rfl (argCons rfl argNil)) _) rfl (h.mono ?_)
        rintro _ w71 ⟨x72, rfl, hh73, h⟩
        refine ⟨⟨⟨trivial, depT (by kernel_rfl)⟩, fun _ => hh73⟩, ?_⟩
        refine WQ_call rfl gd0 (o_call Try.call22 (argCons rfl (argCons rfl argNil)) _) rfl (h.mono ?_)
        rintro _ w74 ⟨x75, rfl, h⟩
        refine ⟨⟨⟨trivial, depT (by kernel_rfl)⟩, depT (by kernel_rfl)⟩, ?_⟩
        refine WQ_val rfl gd0 (o_eql rfl rfl) rfl ?_
        refine WQ_val rfl gd0 (o_assign (v := .bool (decide (x72 = x75))) rfl) rfl ?_
        refine WQ_nil ?_
        refine nrm ?_
        refine WC_ret ?_
        refine rtB ?_
        refine rtT ?_
        refine rtE ?_
        exact gv1 rfl rfl h
      · rw [if_neg (of_decide_eq_false hb66)] at h
        refine WC_skip ?_
        refine nrmB ?_
        refine nrm ?_
        refine WC_seq ?_
        refine WC_region ?_
        refine WL_val gd0 ((o_move (v := .pointer t1) (by exact e0)) _) rfl ?_
        refine WL_val gd0 ((o_fieldAddr 1 Try.underlying38 rfl Try.sizeOf3 rfl rfl rfl) _) rfl ?_
        obtain ⟨x76, hc77, h⟩ := h
        refine WL_val gd0 (o_load Try.isAgg3 rfl hc77) rfl ?_
        refine WL_call gd0 (o_call Try.call16 (argCons rfl (argCons rfl argNil)) _) rfl (h.mono ?_)
        rintro _ w78 ⟨r79, r80, r81, r_a82, r_n83, r_c84, r_a85, r_n86, r_c87, r88, rfl, h⟩
        refine WL_val gd0 ((o_move (v := .tuple #[.agg #[.int .i64 r79, .int .i64 r80, .int .i64 r81, .slice r_a82 r_n83 r_c84, .slice r_a85 r_n86 r_c87], .bool r88]) rfl) _) rfl ?_
        refine WL_val gd0 ((o_extract (vs := [.agg #[.int .i64 r79, .int .i64 r80, .int .i64 r81, .slice r_a82 r_n83 r_c84, .slice r_a85 r_n86 r_c87], .bool r88]) (r := .agg #[.int .i64 r79, .int .i64 r80, .int .i64 r81, .slice r_a82 r_n83 r_c84, .slice r_a85 r_n86 r_c87]) rfl rfl) _) rfl ?_
        refine WL_val gd0 ((o_extract (vs := [.agg #[.int .i64 r79, .int .i64 r80, .int .i64 r81, .slice r_a82 r_n83 r_c84, .slice r_a85 r_n86 r_c87], .bool r88]) (r := .bool r88) rfl rfl) _) rfl ?_
        have h := New.out h
        refine WL_val gd0 (o_alloc (z := .agg #[.int .i64 0, .int .i64 0, .int .i64 0, .slice none 0 0, .slice none 0 0]) (cs := [.int .i64 0, .int .i64 0, .int .i64 0, .slice none 0 0, .slice none 0 0]) Try.zeroValue36 rfl) rfl ?_
        generalize hp89 : fresh w78 = p89 at h ⊢
        generalize hw90 : push w78 36 [.int .i64 0, .int .i64 0, .int .i64 0, .slice none 0 0, .slice none 0 0] = w90 at h ⊢
        try dsimp only at h
        obtain ⟨c92, h⟩ := h
        refine WL_act gd0 (o_storeAgg (vs := [.int .i64 r79, .int .i64 r80, .int .i64 r81, .slice r_a82 r_n83 r_c84, .slice r_a85 r_n86 r_c87]) Try.sizeOf36 rfl rfl rfl c92) ?_
        generalize hw91 : setAll w90 p89 0 [.int .i64 r79, .int .i64 r80, .int .i64 r81, .slice r_a82 r_n83 r_c84, .slice r_a85 r_n86 r_c87] = w91 at h ⊢
        try dsimp only at h
        refine WL_val gd0 ((o_assign (v := .bool r88) rfl) _) rfl ?_
        refine WL_nil ?_
        refine nrm ?_
        refine WC_seq ?_
        refine WC_region ?_
        refine WL_val gd0 ((o_move (v := .pointer x2) (by exact e1)) _) rfl ?_
        refine WL_val gd0 ((o_fieldAddr 1 Try.underlying38 rfl Try.sizeOf3 rfl rfl rfl) _) rfl ?_
        obtain ⟨x93, hc94, h⟩ := h
        refine WL_val gd0 (o_load Try.isAgg3 rfl hc94) rfl ?_
        refine WL_call gd0 (o_call Try.call23 (argCons rfl (argCons rfl argNil)) _) rfl (h.mono ?_)
        rintro _ w95 ⟨r96, r97, r98, r_a99, r_n100, r_c101, r_a102, r_n103, r_c104, r105, rfl, h⟩
        refine WL_val gd0 ((o_move (v := .tuple #[.agg #[.int .i64 r96, .int .i64 r97, .int .i64 r98, .slice r_a99 r_n100 r_c101, .slice r_a102 r_n103 r_c104], .bool r105]) rfl) _) rfl ?_
        refine WL_val gd0 ((o_extract (vs := [.agg #[.int .i64 r96, .int .i64 r97, .int .i64 r98, .slice r_a99 r_n100 r_c101, .slice r_a102 r_n103 r_c104], .bool r105]) (r := .agg #[.int .i64 r96, .int .i64 r97, .int .i64 r98, .slice r_a99 r_n100 r_c101, .slice r_a102 r_n103 r_c104]) rfl rfl) _) rfl ?_
        refine WL_val gd0 ((o_extract (vs := [.agg #[.int .i64 r96, .int .i64 r97, .int .i64 r98, .slice r_a99 r_n100 r_c101, .slice r_a102 r_n103 r_c104], .bool r105]) (r := .bool r105) rfl rfl) _) rfl ?_
        have h := New.out h
        refine WL_val gd0 (o_alloc (z := .agg #[.int .i64 0, .int .i64 0, .int .i64 0, .slice none 0 0, .slice none 0 0]) (cs := [.int .i64 0, .int .i64 0, .int .i64 0, .slice none 0 0, .slice none 0 0]) Try.zeroValue36 rfl) rfl ?_
        generalize hp106 : fresh w95 = p106 at h ⊢
        generalize hw107 : push w95 36 [.int .i64 0, .int .i64 0, .int .i64 0, .slice none 0 0, .slice none 0 0] = w107 at h ⊢
        try dsimp only at h
        obtain ⟨c109, h⟩ := h
        refine WL_act gd0 (o_storeAgg (vs := [.int .i64 r96, .int .i64 r97, .int .i64 r98, .slice r_a99 r_n100 r_c101, .slice r_a102 r_n103 r_c104]) Try.sizeOf36 rfl rfl rfl c109) ?_
        generalize hw108 : setAll w107 p106 0 [.int .i64 r96, .int .i64 r97, .int .i64 r98, .slice r_a99 r_n100 r_c101, .slice r_a102 r_n103 r_c104] = w108 at h ⊢
        try dsimp only at h
        refine WL_val gd0 ((o_assign (v := .bool r105) rfl) _) rfl ?_
        refine WL_nil ?_
        refine nrm ?_
        refine WC_seq ?_
        refine WC_region ?_
        obtain ⟨x110, x111, x112, x_a113, x_n114, x_c115, x_a116, x_n117, x_c118, hc119, h⟩ := h
        refine WL_val gd0 (o_loadAgg (vs := [.int .i64 x110, .int .i64 x111, .int .i64 x112, .slice x_a113 x_n114 x_c115, .slice x_a116 x_n117 x_c118]) Try.isAgg36 Try.sizeOf36 rfl hc119) rfl ?_
        obtain ⟨x120, x121, x122, x_a123, x_n124, x_c125, x_a126, x_n127, x_c128, hc129, h⟩ := h
        refine WL_val gd0 (o_loadAgg (vs := [.int .i64 x120, .int .i64 x121, .int .i64 x122, .slice x_a123 x_n124 x_c125, .slice x_a126 x_n127 x_c128]) Try.isAgg36 Try.sizeOf36 rfl hc129) rfl ?_
        refine WL_call gd0 (o_call Try.call17 (argCons rfl (argCons rfl argNil)) _) rfl (h.mono ?_)
        rintro _ w130 ⟨x131, rfl, h⟩
        refine WL_val gd0 ((o_move (v := .bool x131) rfl) _) rfl ?_
        refine bsplit x131 (fun hb132 => ?_) (fun hb132 => ?_)
        · rw [if_pos hb132] at h
          refine WL_val (gdY (b := x131) 72 rfl rfl hb132) ((o_move (v := .bool r88) rfl) _) rfl ?_
          refine WL_val (gdY (b := x131) 72 rfl rfl hb132) ((o_move (v := .bool r105) rfl) _) rfl ?_
          refine WL_val (gdY (b := x131) 72 rfl rfl hb132) ((o_eqlBool Try.underlying4 rfl rfl) _) rfl ?_
          refine WL_val gd0 ((o_pickT (v := .bool (r88 == r105)) rfl hb132 rfl) _) rfl ?_
          refine WL_val gd0 ((o_assign (v := .bool (r88 == r105)) rfl) _) rfl ?_
          refine WL_nil ?_
          refine nrm ?_
          refine WC_ret ?_
          refine rtE ?_
          exact gv1 rfl rfl h
        · rw [if_neg (neT hb132)] at h
          refine WL_skip (gdN (b := x131) 72 rfl rfl hb132) rfl ?_
          refine WL_skip (gdN (b := x131) 72 rfl rfl hb132) rfl ?_
          refine WL_skip (gdN (b := x131) 72 rfl rfl hb132) rfl ?_
          refine WL_val gd0 ((o_pickF (v := .bool false) rfl hb132 rfl) _) rfl ?_
          refine WL_val gd0 ((o_assign (v := .bool false) rfl) _) rfl ?_
          refine WL_nil ?_
          refine nrm ?_
          refine WC_ret ?_
          refine rtE ?_
          exact gv1 rfl rfl h

def F11_b1 (a_n2 : Nat) (a_a1 : Option Addr) (b_a4 : Option Addr) (b_n5 : Nat) (i12 : Int) (w13 : World) (k : Value → World → Prop) (nx13 : Int → World → Prop) : Prop :=
  if i12 < (a_n2 : Int) then
  ∃ (p18 : Addr), a_a1 = some p18 ∧ (0 : Int) ≤ i12 ∧ i12 < (a_n2 : Int) ∧ ∃ (x20 : Int), w13.drew.cell? (p18.add i12.toNat) = some (.int .i64 x20) ∧ ∃ (p24 : Addr), b_a4 = some p24 ∧ (0 : Int) ≤ i12 ∧ i12 < (b_n5 : Int) ∧ ∃ (x26 : Int), w13.drew.cell? (p24.add i12.toNat) = some (.int .i64 x26) ∧ if x20 ≠ x26 then
    k (.bool false) w13.drew
  else
    nx13 (IntKind.i64.wrap (i12 + 1)) w13.drew
else
  k (.bool true) w13
/-- spacecraft spacecraftref09.Same -/
def F11 (a_a1 : Option Addr) (a_n2 : Nat) (a_c3 : Nat) (b_a4 : Option Addr) (b_n5 : Nat) (b_c6 : Nat) (w7 : World) (k : Value → World → Prop) : Prop :=
  if (a_n2 : Int) ≠ (b_n5 : Int) then
  k (.bool false) w7
else
  LoopP (fun (s : Int) w' nx' => F11_b1 a_n2 a_a1 b_a4 b_n5 s w' k (fun x0 w => nx' x0 w)) 0 w7
set_option maxRecDepth 100000 in
set_option maxHeartbeats 2000000 in
theorem w11 (a_a1 : Option Addr) (a_n2 : Nat) (a_c3 : Nat) (b_a4 : Option Addr) (b_n5 : Nat) (b_c6 : Nat) (w7 : World) (k : Value → World → Prop) (h : F11 a_a1 a_n2 a_c3 b_a4 b_n5 b_c6 w7 k) : Does Try.prog 11 #[.slice a_a1 a_n2 a_c3, .slice b_a4 b_n5 b_c6] w7 k := by
  refine enter 26 Try.func11 rfl rfl rfl ?_
  intro ρ hρ
  have e0 := hρ 0 _ rfl
  have e1 := hρ 1 _ rfl
  unfold F11 at h
  refine WC_seq ?_
  refine WC_region ?_
  refine WL_val gd0 ((o_assign (v := .bool false) rfl) _) rfl ?_
  refine WL_nil ?_
  refine nrm ?_
  refine WC_seq ?_
  refine WC_seq ?_
  refine WC_region ?_
  refine WL_val gd0 ((o_move (v := .slice a_a1 a_n2 a_c3) (by exact e0)) _) rfl ?_
  refine WL_val gd0 ((o_len Try.underlying27 rfl) _) rfl ?_
  refine WL_val gd0 ((o_move (v := .slice b_a4 b_n5 b_c6) (by exact e1)) _) rfl ?_
  refine WL_val gd0 ((o_len Try.underlying27 rfl) _) rfl ?_
  refine WL_val gd0 ((o_neq rfl rfl) _) rfl ?_
  refine WL_nil ?_
  refine nrm ?_
  refine WC_cond (t := (decide ((a_n2 : Int) ≠ (b_n5 : Int)))) rfl (fun hb8 => ?_) (fun hb8 => ?_)
  · rw [if_pos (of_decide_eq_true hb8)] at h
    refine WC_seq ?_
    refine WC_region ?_
    refine WL_val gd0 ((o_assign (v := .bool false) rfl) _) rfl ?_
    refine WL_nil ?_
    refine nrm ?_
    refine WC_ret ?_
    refine rtT ?_
    refine rtE ?_
    exact gv1 rfl rfl h
  · rw [if_neg (of_decide_eq_false hb8)] at h
    refine WC_skip ?_
    refine nrm ?_
    refine WC_seq ?_
    refine WC_seq ?_
    refine WC_region ?_
    refine WL_val gd0 ((o_assign (v := .int .i64 0) rfl) _) rfl ?_
    refine WL_nil ?_
    refine nrm ?_
    refine WC_block ?_
    obtain ⟨J13, ⟨n13, h0⟩, hr13⟩ := h
    refine WC_loop (fun n ρ w' => ∃ (i12 : Int), ρ 5 = .int .i64 i12 ∧ ρ 0 = .slice a_a1 a_n2 a_c3 ∧ ρ 1 = .slice b_a4 b_n5 b_c6 ∧ J13 n i12 w') ⟨n13, _, rfl, e0, e1, h0⟩ ?_
    rintro n13 ρ w13 ⟨i12, e5_11, e0_9, e1_10, h⟩
    have h : F11_b1 a_n2 a_a1 b_a4 b_n5 i12 w13 k (fun x0 w => ∃ m, m < n13 ∧ J13 m x0 w) := hr13 n13 i12 w13 h
    unfold F11_b1 at h
    refine WC_seq ?_
    refine WC_seq ?_
    refine WC_region ?_
    refine WL_val gd0 ((o_move (v := .int .i64 i12) (by exact e5_11)) _) rfl ?_
    refine WL_val gd0 ((o_move (v := .slice a_a1 a_n2 a_c3) (by exact e0_9)) _) rfl ?_
    refine WL_val gd0 ((o_len Try.underlying27 rfl) _) rfl ?_
    refine WL_val gd0 ((o_lss rfl rfl) _) rfl ?_
    refine WL_nil ?_
    refine nrm ?_
    refine WC_cond (t := (decide (i12 < (a_n2 : Int)))) rfl (fun hb15 => ?_) (fun hb15 => ?_)
    · rw [if_pos (of_decide_eq_true hb15)] at h
      refine WC_skip ?_
      refine nrm ?_
      refine WC_seq ?_
      refine WC_block ?_
      refine WC_seq ?_
      refine WC_draws [] (.look 0 (.look 1 (.look 2 (.look 3 (.look 4 (.look 5 (.look 6 (.look 7 (.look 8 .nil))))))))) Try.mixed (by kernel_rfl) ?_
      refine WQ_val rfl gd0 (o_move (v := .slice a_a1 a_n2 a_c3) (by exact e0_9)) rfl ?_
      refine WQ_val rfl gd0 (o_move (v := .int .i64 i12) (by exact e5_11)) rfl ?_
      obtain ⟨p18, q19, h⟩ := h
      obtain ⟨l16, u17, h⟩ := h
      refine WQ_val rfl gd0 (o_indexAddr1 Try.underlying27 Try.sizeOf3 (by exact (congrArg (fun z => Value.slice z a_n2 a_c3) q19)) rfl l16 u17) rfl ?_
      obtain ⟨x20, hc21, h⟩ := h
      refine WQ_look (fun w => w.cell? (p18.add i12.toNat) = some (.int .i64 x20)) rfl gd0 (fun w hc => (o_load Try.isAgg3 rfl hc)) hc21 rfl ?_
      refine WQ_val rfl gd0 (o_move (v := .slice b_a4 b_n5 b_c6) (by exact e1_10)) rfl ?_
      refine WQ_val rfl gd0 (o_move (v := .int .i64 i12) (by exact e5_11)) rfl ?_
      obtain ⟨p24, q25, h⟩ := h
      obtain ⟨l22, u23, h⟩ := h
      refine WQ_val rfl gd0 (o_indexAddr1 Try.underlying27 Try.sizeOf3 (by exact (congrArg (fun z => Value.slice z b_n5 b_c6) q25)) rfl l22 u23) rfl ?_
      obtain ⟨x26, hc27, h⟩ := h
      refine WQ_look (fun w => w.cell? (p24.add i12.toNat) = some (.int .i64 x26)) rfl gd0 (fun w hc => (o_load Try.isAgg3 rfl hc)) hc27 rfl ?_
      refine WQ_val rfl gd0 (o_neq rfl rfl) rfl ?_
      refine WQ_nil ?_
      refine nrm ?_
      refine WC_cond (t := (decide (x20 ≠ x26))) rfl (fun hb28 => ?_) (fun hb28 => ?_)
      · rw [if_pos (of_decide_eq_true hb28)] at h
        refine WC_seq ?_
        refine WC_region ?_
        refine WL_val gd0 ((o_assign (v := .bool false) rfl) _) rfl ?_
        refine WL_nil ?_
        refine nrm ?_
        refine WC_ret ?_
        refine rtB ?_
        refine rtT ?_
        refine rtT ?_
        refine rtB ?_
        refine rtT ?_
        refine rtE ?_
        exact gv1 rfl rfl h
      · rw [if_neg (of_decide_eq_false hb28)] at h
        refine WC_skip ?_
        refine nrmB ?_
        refine nrm ?_
        refine WC_region ?_
        refine WL_val gd0 ((o_move (v := .int .i64 i12) (by exact e5_11)) _) rfl ?_
        refine WL_val gd0 ((o_add rfl rfl) _) rfl ?_
        refine WL_val gd0 ((o_assign (v := .int .i64 (IntKind.i64.wrap (i12 + 1))) rfl) _) rfl ?_
        refine WL_nil ?_
        refine nrm ?_
        obtain ⟨m14, hm14, h⟩ := h
        exact ⟨m14, hm14, _, rfl, e0_9, e1_10, h⟩
    · rw [if_neg (of_decide_eq_false hb15)] at h
      refine WC_exit ?_
      refine exT ?_
      refine exT ?_
      refine exB ?_
      refine nrm ?_
      refine WC_seq ?_
      refine WC_region ?_
      refine WL_val gd0 ((o_assign (v := .bool true) rfl) _) rfl ?_
      refine WL_nil ?_
      refine nrm ?_
      refine WC_ret ?_
      refine rtE ?_
      exact gv1 rfl rfl h

def F12_b1 (x_n9 : Nat) (x_a8 : Option Addr) (out_a13 : Option Addr) (out_n14 : Nat) (out_c15 : Nat) (t19 : Int) (w20 : World) (nx20 : Option Addr → Nat → Nat → Int → World → Prop) (k : Value → World → Prop) : Prop :=
  if t19 < (x_n9 : Int) then
  ∃ (p25 : Addr), x_a8 = some p25 ∧ (0 : Int) ≤ t19 ∧ t19 < (x_n9 : Int) ∧ ∃ (x27 : Int) (x28 : Bool) (x29 x30 x31 : Int) (x_a32 : Option Addr) (x_n33 x_c34 : Nat) (x_a35 : Option Addr) (x_n36 x_c37 : Nat), Cells w20 (p25.add (t19.toNat * 7)) 0 [.int .i64 x27, .bool x28, .int .i64 x29, .int .i64 x30, .int .i64 x31, .slice x_a32 x_n33 x_c34, .slice x_a35 x_n36 x_c37] ∧ New w20 54 [.int .i64 0, .bool false, .int .i64 0, .int .i64 0, .int .i64 0, .slice none 0 0, .slice none 0 0] (fun p39 w40 => PutAll w40 p39 [.int .i64 x27, .bool x28, .int .i64 x29, .int .i64 x30, .int .i64 x31, .slice x_a32 x_n33 x_c34, .slice x_a35 x_n36 x_c37] (fun w41 => ∃ (x43 : Int), w41.cell? p39 = some (.int .i64 x43) ∧ New w41 3 [.int .i64 x43] (fun p45 w46 => ∃ (b_a47 : Option Addr) (b_n48 b_c49 : Nat) (w50 : World), (Builtin.append_ #[27, 27] 27 #[.slice out_a13 out_n14 out_c15, .slice (some p45) 1 1]).run Try.prog w46 = .ok (.slice b_a47 b_n48 b_c49) w50 ∧ nx20 b_a47 b_n48 b_c49 (IntKind.i64.wrap (t19 + 1)) w50)))
else
  k (.slice out_a13 out_n14 out_c15) w20
/-- (*spacecraft action.Table).Events -/
def F12 (t1 : Option Addr) (w2 : World) (k : Value → World → Prop) : Prop :=
  Does Try.prog 24 #[.pointer t1] w2 (fun v w3 => ∃ (x4 : Bool), v = .bool x4 ∧ if (!x4) = true then
  k (.slice none 0 0) w3
else
  ∃ (p6 : Addr), t1 = some p6 ∧ ∃ (x_a8 : Option Addr) (x_n9 x_c10 : Nat), w3.cell? (p6.add 1) = some (.slice x_a8 x_n9 x_c10) ∧ LoopP (fun (s : Option Addr × Nat × Nat × Int) w' nx' => F12_b1 x_n9 x_a8 (s.1) (s.2.1) (s.2.2.1) (s.2.2.2) w' (fun x0 x1 x2 x3 w => nx' (x0, x1, x2, x3) w) k) (none, 0, 0, 0) w3)
set_option maxRecDepth 100000 in
set_option maxHeartbeats 2000000 in
theorem w12 (t1 : Option Addr) (w2 : World) (k : Value → World → Prop) (h : F12 t1 w2 k) : Does Try.prog 12 #[.pointer t1] w2 k := by
  refine enter 25 Try.func12 rfl rfl rfl ?_
  intro ρ hρ
  have e0 := hρ 0 _ rfl
  unfold F12 at h
  refine WC_seq ?_
  refine WC_region ?_
  refine WL_val gd0 ((o_assign (v := .slice none 0 0) rfl) _) rfl ?_
  refine WL_nil ?_
  refine nrm ?_
  refine WC_seq ?_
  refine WC_seq ?_
  refine WC_region ?_
  refine WL_val gd0 ((o_move (v := .pointer t1) (by exact e0)) _) rfl ?_
  refine WL_call gd0 (o_call Try.call24 (argCons rfl argNil) _) rfl (h.mono ?_)
  rintro _ w3 ⟨x4, rfl, h⟩
  refine WL_val gd0 ((o_not rfl) _) rfl ?_
  refine WL_nil ?_
  refine nrm ?_
  refine WC_cond (t := (!x4)) rfl (fun hb5 => ?_) (fun hb5 => ?_)
  · rw [if_pos hb5] at h
    refine WC_seq ?_
    refine WC_region ?_
    refine WL_val gd0 ((o_assign (v := .slice none 0 0) rfl) _) rfl ?_
    refine WL_nil ?_
    refine nrm ?_
    refine WC_ret ?_
    refine rtT ?_
    refine rtE ?_
    exact gv1 rfl rfl h
  · rw [if_neg (neT hb5)] at h
    refine WC_skip ?_
    refine nrm ?_
    refine WC_seq ?_
    refine WC_region ?_
    refine WL_val gd0 ((o_assign (v := .slice none 0 0) rfl) _) rfl ?_
    refine WL_nil ?_
    refine nrm ?_
    refine WC_seq ?_
    refine WC_seq ?_
    refine WC_region ?_
    refine WL_val gd0 ((o_move (v := .pointer t1) (by exact e0)) _) rfl ?_
    obtain ⟨p6, q7, h⟩ := h
    refine WL_val gd0 ((o_nilCheck (by exact (congrArg Value.pointer q7))) _) rfl ?_
    refine WL_val gd0 ((o_fieldAddr 1 Try.underlying51 rfl Try.sizeOf49 rfl rfl rfl) _) rfl ?_
    obtain ⟨x_a8, x_n9, x_c10, hc11, h⟩ := h
    refine WL_val gd0 (o_load Try.isAgg49 rfl hc11) rfl ?_
    refine WL_val gd0 ((o_len Try.underlying49 rfl) _) rfl ?_
    refine WL_val gd0 ((o_move (v := .int .i64 0) rfl) _) rfl ?_
    refine WL_nil ?_
    refine nrm ?_
    refine WC_block ?_
    obtain ⟨J20, ⟨n20, h0⟩, hr20⟩ := h
    refine WC_loop (fun n ρ w' => ∃ (out_a13 : Option Addr) (out_n14 out_c15 : Nat) (t19 : Int), ρ 3 = .slice out_a13 out_n14 out_c15 ∧ ρ 14 = .int .i64 t19 ∧ ρ 12 = .slice x_a8 x_n9 x_c10 ∧ ρ 13 = .int .i64 (x_n9 : Int) ∧ J20 n (out_a13, out_n14, out_c15, t19) w') ⟨n20, _, _, _, _, rfl, rfl, rfl, rfl, h0⟩ ?_
    rintro n20 ρ w20 ⟨out_a13, out_n14, out_c15, t19, e3_12, e14_18, e12_16, e13_17, h⟩
    have h : F12_b1 x_n9 x_a8 out_a13 out_n14 out_c15 t19 w20 (fun x0 x1 x2 x3 w => ∃ m, m < n20 ∧ J20 m (x0, x1, x2, x3) w) k := hr20 n20 (out_a13, out_n14, out_c15, t19) w20 h
    unfold F12_b1 at h
    refine WC_seq ?_
    refine WC_region ?_
    refine WL_val gd0 ((o_lss (by exact e14_18) (by exact e13_17)) _) rfl ?_
    refine WL_nil ?_
    refine nrm ?_
    refine WC_seq ?_
    refine WC_cond (t := (decide (t19 < (x_n9 : Int)))) rfl (fun hb22 => ?_) (fun hb22 => ?_)
    · rw [if_pos (of_decide_eq_true hb22)] at h
      refine WC_skip ?_
      refine nrm ?_
      refine WC_seq ?_
      refine WC_block ?_
      refine WC_seq ?_
      refine WC_region ?_
      obtain ⟨p25, q26, h⟩ := h
      obtain ⟨l23, u24, h⟩ := h
      refine WL_val gd0 ((o_indexAddr Try.underlying49 Try.sizeOf54 (by exact (Eq.trans e12_16 (congrArg (fun z => Value.slice z x_n9 x_c10) q26))) (by exact e14_18) l23 u24) _) rfl ?_
      obtain ⟨x27, x28, x29, x30, x31, x_a32, x_n33, x_c34, x_a35, x_n36, x_c37, hc38, h⟩ := h
      refine WL_val gd0 (o_loadAgg (vs := [.int .i64 x27, .bool x28, .int .i64 x29, .int .i64 x30, .int .i64 x31, .slice x_a32 x_n33 x_c34, .slice x_a35 x_n36 x_c37]) Try.isAgg54 Try.sizeOf54 rfl hc38) rfl ?_
      have h := New.out h
      refine WL_val gd0 (o_alloc (z := .agg #[.int .i64 0, .bool false, .int .i64 0, .int .i64 0, .int .i64 0, .slice none 0 0, .slice none 0 0]) (cs := [.int .i64 0, .bool false, .int .i64 0, .int .i64 0, .int .i64 0, .slice none 0 0, .slice none 0 0]) Try.zeroValue54 rfl) rfl ?_
      generalize hp39 : fresh w20 = p39 at h ⊢
      generalize hw40 : push w20 54 [.int .i64 0, .bool false, .int .i64 0, .int .i64 0, .int .i64 0, .slice none 0 0, .slice none 0 0] = w40 at h ⊢
      try dsimp only at h
      obtain ⟨c42, h⟩ := h
      refine WL_act gd0 (o_storeAgg (vs := [.int .i64 x27, .bool x28, .int .i64 x29, .int .i64 x30, .int .i64 x31, .slice x_a32 x_n33 x_c34, .slice x_a35 x_n36 x_c37]) Try.sizeOf54 rfl rfl rfl c42) ?_
      generalize hw41 : setAll w40 p39 0 [.int .i64 x27, .bool x28, .int .i64 x29, .int .i64 x30, .int .i64 x31, .slice x_a32 x_n33 x_c34, .slice x_a35 x_n36 x_c37] = w41 at h ⊢
      try dsimp only at h
      refine WL_nil ?_
      refine nrm ?_
      refine WC_region ?_
      refine WL_val gd0 ((o_move (v := .slice out_a13 out_n14 out_c15) (by exact e3_12)) _) rfl ?_
      refine WL_val gd0 ((o_fieldAddr0 Try.underlying54 rfl Try.sizeOf3 rfl rfl rfl) _) rfl ?_
      obtain ⟨x43, hc44, h⟩ := h
      refine WL_val gd0 (o_load Try.isAgg3 rfl hc44) rfl ?_
      have h := New.out h
      refine WL_val gd0 (o_buildSlice (e := 3) (ps := [(0, .int .i64 x43)]) (cs := [.int .i64 x43]) (partCons rfl partNil) (fun w => by kernel_rfl)) rfl ?_
      generalize hp45 : fresh w41 = p45 at h ⊢
      generalize hw46 : push w41 3 [.int .i64 x43] = w46 at h ⊢
      try dsimp only at h
      obtain ⟨b_a47, b_n48, b_c49, w50, r51, h⟩ := h
      refine WL_val gd0 (o_append rfl rfl r51) rfl ?_
      refine WL_val gd0 ((o_assign (v := .slice b_a47 b_n48 b_c49) rfl) _) rfl ?_
      refine WL_nil ?_
      refine nrmB ?_
      refine nrm ?_
      refine WC_region ?_
      refine WL_val gd0 ((o_add (by exact e14_18) rfl) _) rfl ?_
      refine WL_val gd0 ((o_move (v := .int .i64 (IntKind.i64.wrap (t19 + 1))) rfl) _) rfl ?_
      refine WL_nil ?_
      refine nrm ?_
      obtain ⟨m21, hm21, h⟩ := h
      exact ⟨m21, hm21, _, _, _, _, rfl, rfl, e12_16, e13_17, h⟩
    · rw [if_neg (of_decide_eq_false hb22)] at h
      refine WC_exit ?_
      refine exT ?_
      refine exT ?_
      refine exB ?_
      refine nrm ?_
      refine WC_seq ?_
      refine WC_region ?_
      refine WL_val gd0 ((o_move (v := .slice out_a13 out_n14 out_c15) (by exact e3_12)) _) rfl ?_
      refine WL_val gd0 ((o_assign (v := .slice out_a13 out_n14 out_c15) rfl) _) rfl ?_
      refine WL_nil ?_
      refine nrm ?_
      refine WC_ret ?_
      refine rtE ?_
      exact gv1 rfl rfl h


end Go.Proofs.Ytkeaamfpcapioaa
