/-
  The forms of the functions, and their walks: written by a program of this claim (gen.py) off the elaborated translation.
-/
import Derived.Test.YtpioadkiomcdlaaProg
import Derived.Test.YtpioadkiomcdlaaBase
import Derived.KernelRfl
namespace Go.Proofs.Ytpioadkiomcdlaa
open Go Go.Sh Go.Proofs
set_option linter.unusedVariables false
theorem Try.mixed : Try.prog.follows .mixedOrders = true := by kernel_rfl
/-- spacecraft spacecraftlaw18.TmframeEncodes -/
def F3 (f1 : Int) (f2 : Int) (f3 : Int) (f4 : Int) (f5 : Int) (f_a6 : Option Addr) (f_n7 : Nat) (f_c8 : Nat) (f9 : Int) (f10 : Bool) (f11 : Bool) (f12 : Bool) (f13 : Int) (f14 : Int) (w15 : World) (k : Value → World → Prop) : Prop :=
  New w15 26 [.int .i64 f1, .int .i64 f2, .int .i64 f3, .int .i64 f4, .int .i64 f5, .slice f_a6 f_n7 f_c8, .int .i64 f9, .bool f10, .bool f11, .bool f12, .int .i64 f13, .int .i64 f14] (fun p16 w17 => ∃ (x_a18 : Option Addr) (x_n19 x_c20 : Nat), w17.cell? (p16.add 5) = some (.slice x_a18 x_n19 x_c20) ∧ if 3000 < (x_n19 : Int) then
  Does Try.prog 8 #[] w17 (fun v w23 => ∃ (t24 : Bool), v = .bool t24 ∧ k (.bool t24) w23)
else
  ∃ (x25 x26 x27 x28 x29 : Int) (x_a30 : Option Addr) (x_n31 x_c32 : Nat) (x33 : Int) (x34 x35 x36 : Bool) (x37 x38 : Int), Cells w17 p16 0 [.int .i64 x25, .int .i64 x26, .int .i64 x27, .int .i64 x28, .int .i64 x29, .slice x_a30 x_n31 x_c32, .int .i64 x33, .bool x34, .bool x35, .bool x36, .int .i64 x37, .int .i64 x38] ∧ Does Try.prog 9 #[.agg #[.int .i64 x25, .int .i64 x26, .int .i64 x27, .int .i64 x28, .int .i64 x29, .slice x_a30 x_n31 x_c32, .int .i64 x33, .bool x34, .bool x35, .bool x36, .int .i64 x37, .int .i64 x38]] w17 (fun v w40 => ∃ (r_a41 : Option Addr) (r_n42 r_c43 : Nat) (r44 : Int), v = .tuple #[.slice r_a41 r_n42 r_c43, .int .i64 r44] ∧ ∃ (x45 x46 x47 x48 x49 : Int) (x_a50 : Option Addr) (x_n51 x_c52 : Nat) (x53 : Int) (x54 x55 x56 : Bool) (x57 x58 : Int), Cells w40 p16 0 [.int .i64 x45, .int .i64 x46, .int .i64 x47, .int .i64 x48, .int .i64 x49, .slice x_a50 x_n51 x_c52, .int .i64 x53, .bool x54, .bool x55, .bool x56, .int .i64 x57, .int .i64 x58] ∧ Does Try.prog 10 #[.agg #[.int .i64 x45, .int .i64 x46, .int .i64 x47, .int .i64 x48, .int .i64 x49, .slice x_a50 x_n51 x_c52, .int .i64 x53, .bool x54, .bool x55, .bool x56, .int .i64 x57, .int .i64 x58]] w40 (fun v w60 => ∃ (r_a61 : Option Addr) (r_n62 r_c63 : Nat) (r64 : Int), v = .tuple #[.slice r_a61 r_n62 r_c63, .int .i64 r64] ∧ ∃ (s65 : ByteArray), (Conv.bytesToString (.slice r_a41 r_n42 r_c43)).run Try.prog w60.drew = .ok (.string s65) w60.drew ∧ ∃ (s67 : ByteArray), (Conv.bytesToString (.slice r_a61 r_n62 r_c63)).run Try.prog w60.drew = .ok (.string s67) w60.drew ∧ if (s65.toList == s67.toList) = true then
    if r44 = r64 then
      ∃ (x71 x72 x73 x74 x75 : Int) (x_a76 : Option Addr) (x_n77 x_c78 : Nat) (x79 : Int) (x80 x81 x82 : Bool) (x83 x84 : Int), Cells w60.drew p16 0 [.int .i64 x71, .int .i64 x72, .int .i64 x73, .int .i64 x74, .int .i64 x75, .slice x_a76 x_n77 x_c78, .int .i64 x79, .bool x80, .bool x81, .bool x82, .int .i64 x83, .int .i64 x84] ∧ ∃ (x86 x87 x88 x89 x90 : Int) (x_a91 : Option Addr) (x_n92 x_c93 : Nat) (x94 : Int) (x95 x96 x97 : Bool) (x98 x99 : Int), Cells w60.drew p16 0 [.int .i64 x86, .int .i64 x87, .int .i64 x88, .int .i64 x89, .int .i64 x90, .slice x_a91 x_n92 x_c93, .int .i64 x94, .bool x95, .bool x96, .bool x97, .int .i64 x98, .int .i64 x99] ∧ Does Try.prog 11 #[.agg #[.int .i64 x71, .int .i64 x72, .int .i64 x73, .int .i64 x74, .int .i64 x75, .slice x_a76 x_n77 x_c78, .int .i64 x79, .bool x80, .bool x81, .bool x82, .int .i64 x83, .int .i64 x84]] w60.drew (fun v w101 => ∃ (x102 : Bool), v = .bool x102 ∧ Cells w101 p16 0 [.int .i64 x86, .int .i64 x87, .int .i64 x88, .int .i64 x89, .int .i64 x90, .slice x_a91 x_n92 x_c93, .int .i64 x94, .bool x95, .bool x96, .bool x97, .int .i64 x98, .int .i64 x99] ∧ Does Try.prog 12 #[.agg #[.int .i64 x86, .int .i64 x87, .int .i64 x88, .int .i64 x89, .int .i64 x90, .slice x_a91 x_n92 x_c93, .int .i64 x94, .bool x95, .bool x96, .bool x97, .int .i64 x98, .int .i64 x99]] w101 (fun v w104 => ∃ (x105 : Bool), v = .bool x105 ∧ if (x102 == x105) = true then
        Does Try.prog 8 #[] w104 (fun v w107 => ∃ (x108 : Bool), v = .bool x108 ∧ k (.bool x108) w107)
      else
        k (.bool false) w104))
    else
      k (.bool false) w60.drew
  else
    k (.bool false) w60.drew)))
set_option maxRecDepth 100000 in
set_option maxHeartbeats 2000000 in
theorem w3 (f1 : Int) (f2 : Int) (f3 : Int) (f4 : Int) (f5 : Int) (f_a6 : Option Addr) (f_n7 : Nat) (f_c8 : Nat) (f9 : Int) (f10 : Bool) (f11 : Bool) (f12 : Bool) (f13 : Int) (f14 : Int) (w15 : World) (k : Value → World → Prop) (h : F3 f1 f2 f3 f4 f5 f_a6 f_n7 f_c8 f9 f10 f11 f12 f13 f14 w15 k) : Does Try.prog 3 #[.agg #[.int .i64 f1, .int .i64 f2, .int .i64 f3, .int .i64 f4, .int .i64 f5, .slice f_a6 f_n7 f_c8, .int .i64 f9, .bool f10, .bool f11, .bool f12, .int .i64 f13, .int .i64 f14]] w15 k := by
  refine enter 42 Try.func3 rfl rfl rfl ?_
  intro ρ hρ
  have e0 := hρ 0 _ rfl
  unfold F3 at h
  refine WC_seq ?_
  refine WC_region ?_
  have h := New.out h
  refine WL_val gd0 (o_box (v := .agg #[.int .i64 f1, .int .i64 f2, .int .i64 f3, .int .i64 f4, .int .i64 f5, .slice f_a6 f_n7 f_c8, .int .i64 f9, .bool f10, .bool f11, .bool f12, .int .i64 f13, .int .i64 f14]) (cs := [.int .i64 f1, .int .i64 f2, .int .i64 f3, .int .i64 f4, .int .i64 f5, .slice f_a6 f_n7 f_c8, .int .i64 f9, .bool f10, .bool f11, .bool f12, .int .i64 f13, .int .i64 f14]) (by exact e0) rfl) rfl ?_
  generalize hp16 : fresh w15 = p16 at h ⊢
  generalize hw17 : push w15 26 [.int .i64 f1, .int .i64 f2, .int .i64 f3, .int .i64 f4, .int .i64 f5, .slice f_a6 f_n7 f_c8, .int .i64 f9, .bool f10, .bool f11, .bool f12, .int .i64 f13, .int .i64 f14] = w17 at h ⊢
  try dsimp only at h
  refine WL_val gd0 ((o_assign (v := .bool false) rfl) _) rfl ?_
  refine WL_nil ?_
  refine nrm ?_
  refine WC_seq ?_
  refine WC_seq ?_
  refine WC_region ?_
  refine WL_val gd0 ((o_fieldAddr 5 Try.underlying26 rfl Try.sizeOf22 rfl rfl rfl) _) rfl ?_
  obtain ⟨x_a18, x_n19, x_c20, hc21, h⟩ := h
  refine WL_val gd0 (o_load Try.isAgg22 rfl hc21) rfl ?_
  refine WL_val gd0 ((o_len Try.underlying22 rfl) _) rfl ?_
  refine WL_val gd0 ((o_gtr rfl rfl) _) rfl ?_
  refine WL_nil ?_
  refine nrm ?_
  refine WC_cond (t := (decide (3000 < (x_n19 : Int)))) rfl (fun hb22 => ?_) (fun hb22 => ?_)
  · rw [if_pos (of_decide_eq_true hb22)] at h
    refine WC_seq ?_
    refine WC_region ?_
    refine WL_call gd0 (o_call Try.call8 argNil _) rfl (h.mono ?_)
    rintro _ w23 ⟨t24, rfl, h⟩
    refine WL_val gd0 ((o_assign (v := .bool t24) rfl) _) rfl ?_
    refine WL_nil ?_
    refine nrm ?_
    refine WC_ret ?_
    refine rtT ?_
    refine rtE ?_
    exact gv1 rfl rfl h
  · rw [if_neg (of_decide_eq_false hb22)] at h
    refine WC_skip ?_
    refine nrm ?_
    refine WC_seq ?_
    refine WC_region ?_
    obtain ⟨x25, x26, x27, x28, x29, x_a30, x_n31, x_c32, x33, x34, x35, x36, x37, x38, hc39, h⟩ := h
    refine WL_val gd0 (o_loadAgg (vs := [.int .i64 x25, .int .i64 x26, .int .i64 x27, .int .i64 x28, .int .i64 x29, .slice x_a30 x_n31 x_c32, .int .i64 x33, .bool x34, .bool x35, .bool x36, .int .i64 x37, .int .i64 x38]) Try.isAgg26 Try.sizeOf26 rfl hc39) rfl ?_
    refine WL_call gd0 (o_call Try.call9 (argCons rfl argNil) _) rfl (h.mono ?_)
    rintro _ w40 ⟨r_a41, r_n42, r_c43, r44, rfl, h⟩
    refine WL_val gd0 ((o_move (v := .tuple #[.slice r_a41 r_n42 r_c43, .int .i64 r44]) rfl) _) rfl ?_
    refine WL_val gd0 ((o_extract (vs := [.slice r_a41 r_n42 r_c43, .int .i64 r44]) (r := .slice r_a41 r_n42 r_c43) rfl rfl) _) rfl ?_
    refine WL_val gd0 ((o_extract (vs := [.slice r_a41 r_n42 r_c43, .int .i64 r44]) (r := .int .i64 r44) rfl rfl) _) rfl ?_
    refine WL_val gd0 ((o_assign (v := .slice r_a41 r_n42 r_c43) rfl) _) rfl ?_
    refine WL_val gd0 ((o_assign (v := .int .i64 r44) rfl) _) rfl ?_
    refine WL_nil ?_
    refine nrm ?_
    refine WC_seq ?_
    refine WC_region ?_
    obtain ⟨x45, x46, x47, x48, x49, x_a50, x_n51, x_c52, x53, x54, x55, x56, x57, x58, hc59, h⟩ := h
    refine WL_val gd0 (o_loadAgg (vs := [.int .i64 x45, .int .i64 x46, .int .i64 x47, .int .i64 x48, .int .i64 x49, .slice x_a50 x_n51 x_c52, .int .i64 x53, .bool x54, .bool x55, .bool x56, .int .i64 x57, .int .i64 x58]) Try.isAgg26 Try.sizeOf26 rfl hc59) rfl ?_
    refine WL_call gd0 (o_call Try.call10 (argCons rfl argNil) _) rfl (h.mono ?_)
    rintro _ w60 ⟨r_a61, r_n62, r_c63, r64, rfl, h⟩
    refine WL_val gd0 ((o_move (v := .tuple #[.slice r_a61 r_n62 r_c63, .int .i64 r64]) rfl) _) rfl ?_
    refine WL_val gd0 ((o_extract (vs := [.slice r_a61 r_n62 r_c63, .int .i64 r64]) (r := .slice r_a61 r_n62 r_c63) rfl rfl) _) rfl ?_
    refine WL_val gd0 ((o_extract (vs := [.slice r_a61 r_n62 r_c63, .int .i64 r64]) (r := .int .i64 r64) rfl rfl) _) rfl ?_
    refine WL_val gd0 ((o_assign (v := .slice r_a61 r_n62 r_c63) rfl) _) rfl ?_
    refine WL_val gd0 ((o_assign (v := .int .i64 r64) rfl) _) rfl ?_
    refine WL_nil ?_
    refine nrm ?_
    refine WC_seq ?_
    refine WC_draws [12, 14, 18] (.look 0 (.look 1 (.look 2 (.look 3 (.look 4 (.look 5 (.look 6 (.look 7 (.look 8 (.look 9 (.look 10 (.look 11 (.look 13 (.act 12 (.act 14 (.look 15 (.look 16 (.look 17 (.act 18 (.look 19 (.look 20 .nil))))))))))))))))))))) Try.mixed (by kernel_rfl) ?_
    refine WQ_val rfl gd0 (o_move (v := .slice r_a41 r_n42 r_c43) rfl) rfl ?_
    obtain ⟨s65, r66, h⟩ := h
    refine WQ_look (fun w => (Conv.bytesToString (.slice r_a41 r_n42 r_c43)).run Try.prog w = .ok (.string s65) w) rfl gd0 (fun w hc => (o_toStr Try.underlying22 Try.underlying5 Try.underlying9 rfl hc)) r66 rfl ?_
    refine WQ_val rfl gd0 (o_move (v := .slice r_a61 r_n62 r_c63) rfl) rfl ?_
    obtain ⟨s67, r68, h⟩ := h
    refine WQ_look (fun w => (Conv.bytesToString (.slice r_a61 r_n62 r_c63)).run Try.prog w = .ok (.string s67) w) rfl gd0 (fun w hc => (o_toStr Try.underlying22 Try.underlying5 Try.underlying9 rfl hc)) r68 rfl ?_
    refine WQ_val rfl gd0 (o_eqlStr rfl rfl) rfl ?_
    refine WQ_val rfl gd0 (o_move (v := .bool (s65.toList == s67.toList)) rfl) rfl ?_
    refine bsplit (s65.toList == s67.toList) (fun hb69 => ?_) (fun hb69 => ?_)
    · rw [if_pos hb69] at h
      refine WQ_val rfl (gdY (b := (s65.toList == s67.toList)) 27 rfl rfl hb69) (o_move (v := .int .i64 r44) rfl) rfl ?_
      refine WQ_val rfl (gdY (b := (s65.toList == s67.toList)) 27 rfl rfl hb69) (o_move (v := .int .i64 r64) rfl) rfl ?_
      refine WQ_val rfl (gdY (b := (s65.toList == s67.toList)) 27 rfl rfl hb69) (o_eql rfl rfl) rfl ?_
      refine WQ_val rfl gd0 (o_pickT (v := .bool (decide (r44 = r64))) rfl hb69 rfl) rfl ?_
      refine WQ_val rfl gd0 (o_move (v := .bool (decide (r44 = r64))) rfl) rfl ?_
      refine bsplit (decide (r44 = r64)) (fun hb70 => ?_) (fun hb70 => ?_)
      · rw [if_pos (of_decide_eq_true hb70)] at h
        obtain ⟨x71, x72, x73, x74, x75, x_a76, x_n77, x_c78, x79, x80, x81, x82, x83, x84, hc85, h⟩ := h
        refine WQ_look (fun w => Cells w p16 0 [.int .i64 x71, .int .i64 x72, .int .i64 x73, .int .i64 x74, .int .i64 x75, .slice x_a76 x_n77 x_c78, .int .i64 x79, .bool x80, .bool x81, .bool x82, .int .i64 x83, .int .i64 x84]) rfl (gdY (b := (decide (r44 = r64))) 32 rfl rfl hb70) (fun w hc => (o_loadAgg (vs := [.int .i64 x71, .int .i64 x72, .int .i64 x73, .int .i64 x74, .int .i64 x75, .slice x_a76 x_n77 x_c78, .int .i64 x79, .bool x80, .bool x81, .bool x82, .int .i64 x83, .int .i64 x84]) Try.isAgg26 Try.sizeOf26 rfl hc)) hc85 rfl ?_
        obtain ⟨x86, x87, x88, x89, x90, x_a91, x_n92, x_c93, x94, x95, x96, x97, x98, x99, hc100, h⟩ := h
        refine WQ_look (fun w => Cells w p16 0 [.int .i64 x86, .int .i64 x87, .int .i64 x88, .int .i64 x89, .int .i64 x90, .slice x_a91 x_n92 x_c93, .int .i64 x94, .bool x95, .bool x96, .bool x97, .int .i64 x98, .int .i64 x99]) rfl (gdY (b := (decide (r44 = r64))) 32 rfl rfl hb70) (fun w hc => (o_loadAgg (vs := [.int .i64 x86, .int .i64 x87, .int .i64 x88, .int .i64 x89, .int .i64 x90, .slice x_a91 x_n92 x_c93, .int .i64 x94, .bool x95, .bool x96, .bool x97, .int .i64 x98, .int .i64 x99]) Try.isAgg26 Try.sizeOf26 rfl hc)) hc100 rfl ?_
        refine WQ_call rfl (gdY (b := (decide (r44 = r64))) 32 rfl rfl hb70) (o_call Try.call11 (argCons rfl argNil) _) rfl (h.mono ?_)
        rintro _ w101 ⟨x102, rfl, hh103, h⟩
        refine ⟨⟨⟨⟨⟨trivial, depT (by kernel_rfl)⟩, depT (by kernel_rfl)⟩, depT (by kernel_rfl)⟩, fun _ => hh103⟩, ?_⟩
        refine WQ_call rfl (gdY (b := (decide (r44 = r64))) 32 rfl rfl hb70) (o_call Try.call12 (argCons rfl argNil) _) rfl (h.mono ?_)
        rintro _ w104 ⟨x105, rfl, h⟩
        refine ⟨⟨⟨⟨⟨trivial, depT (by kernel_rfl)⟩, depT (by kernel_rfl)⟩, depT (by kernel_rfl)⟩, depT (by kernel_rfl)⟩, ?_⟩
        refine WQ_val rfl (gdY (b := (decide (r44 = r64))) 32 rfl rfl hb70) (o_eqlBool Try.underlying4 rfl rfl) rfl ?_
        refine WQ_val rfl gd0 (o_pickT (v := .bool (x102 == x105)) rfl hb70 rfl) rfl ?_
        refine WQ_val rfl gd0 (o_move (v := .bool (x102 == x105)) rfl) rfl ?_
        refine bsplit (x102 == x105) (fun hb106 => ?_) (fun hb106 => ?_)
        · rw [if_pos hb106] at h
          refine WQ_call rfl (gdY (b := (x102 == x105)) 39 rfl rfl hb106) (o_call Try.call8 argNil _) rfl (h.mono ?_)
          rintro _ w107 ⟨x108, rfl, h⟩
          refine ⟨⟨⟨⟨⟨trivial, depT (by kernel_rfl)⟩, depT (by kernel_rfl)⟩, depT (by kernel_rfl)⟩, depT (by kernel_rfl)⟩, ?_⟩
          refine WQ_val rfl gd0 (o_pickT (v := .bool x108) rfl hb106 rfl) rfl ?_
          refine WQ_val rfl gd0 (o_assign (v := .bool x108) rfl) rfl ?_
          refine WQ_nil ?_
          refine nrm ?_
          refine WC_ret ?_
          refine rtE ?_
          exact gv1 rfl rfl h
        · rw [if_neg (neT hb106)] at h
          refine WQ_passAct rfl (gdN (b := (x102 == x105)) 39 rfl rfl hb106) rfl (by exact ⟨⟨⟨⟨trivial, depT (by kernel_rfl)⟩, depT (by kernel_rfl)⟩, depT (by kernel_rfl)⟩, depT (by kernel_rfl)⟩) ?_
          refine WQ_val rfl gd0 (o_pickF (v := .bool false) rfl hb106 rfl) rfl ?_
          refine WQ_val rfl gd0 (o_assign (v := .bool false) rfl) rfl ?_
          refine WQ_nil ?_
          refine nrm ?_
          refine WC_ret ?_
          refine rtE ?_
          exact gv1 rfl rfl h
      · rw [if_neg (of_decide_eq_false hb70)] at h
        refine WQ_skip rfl (gdN (b := (decide (r44 = r64))) 32 rfl rfl hb70) rfl ?_
        refine WQ_skip rfl (gdN (b := (decide (r44 = r64))) 32 rfl rfl hb70) rfl ?_
        refine WQ_passAct rfl (gdN (b := (decide (r44 = r64))) 32 rfl rfl hb70) rfl (by exact ⟨⟨trivial, depT (by kernel_rfl)⟩, depT (by kernel_rfl)⟩) ?_
        refine WQ_passAct rfl (gdN (b := (decide (r44 = r64))) 32 rfl rfl hb70) rfl (by exact ⟨⟨trivial, depT (by kernel_rfl)⟩, depT (by kernel_rfl)⟩) ?_
        refine WQ_skip rfl (gdN (b := (decide (r44 = r64))) 32 rfl rfl hb70) rfl ?_
        refine WQ_val rfl gd0 (o_pickF (v := .bool false) rfl hb70 rfl) rfl ?_
        refine WQ_val rfl gd0 (o_move (v := .bool false) rfl) rfl ?_
        refine WQ_passAct rfl (gdN (b := false) 39 rfl rfl rfl) rfl (by exact ⟨⟨trivial, depT (by kernel_rfl)⟩, depT (by kernel_rfl)⟩) ?_
        refine WQ_val rfl gd0 (o_pickF (v := .bool false) rfl rfl rfl) rfl ?_
        refine WQ_val rfl gd0 (o_assign (v := .bool false) rfl) rfl ?_
        refine WQ_nil ?_
        refine nrm ?_
        refine WC_ret ?_
        refine rtE ?_
        exact gv1 rfl rfl h
    · rw [if_neg (neT hb69)] at h
      refine WQ_skip rfl (gdN (b := (s65.toList == s67.toList)) 27 rfl rfl hb69) rfl ?_
      refine WQ_skip rfl (gdN (b := (s65.toList == s67.toList)) 27 rfl rfl hb69) rfl ?_
      refine WQ_skip rfl (gdN (b := (s65.toList == s67.toList)) 27 rfl rfl hb69) rfl ?_
      refine WQ_val rfl gd0 (o_pickF (v := .bool false) rfl hb69 rfl) rfl ?_
      refine WQ_val rfl gd0 (o_move (v := .bool false) rfl) rfl ?_
      refine WQ_skip rfl (gdN (b := false) 32 rfl rfl rfl) rfl ?_
      refine WQ_skip rfl (gdN (b := false) 32 rfl rfl rfl) rfl ?_
      refine WQ_passAct rfl (gdN (b := false) 32 rfl rfl rfl) rfl (by exact ⟨⟨trivial, depT (by kernel_rfl)⟩, depT (by kernel_rfl)⟩) ?_
      refine WQ_passAct rfl (gdN (b := false) 32 rfl rfl rfl) rfl (by exact ⟨⟨trivial, depT (by kernel_rfl)⟩, depT (by kernel_rfl)⟩) ?_
      refine WQ_skip rfl (gdN (b := false) 32 rfl rfl rfl) rfl ?_
      refine WQ_val rfl gd0 (o_pickF (v := .bool false) rfl rfl rfl) rfl ?_
      refine WQ_val rfl gd0 (o_move (v := .bool false) rfl) rfl ?_
      refine WQ_passAct rfl (gdN (b := false) 39 rfl rfl rfl) rfl (by exact ⟨⟨trivial, depT (by kernel_rfl)⟩, depT (by kernel_rfl)⟩) ?_
      refine WQ_val rfl gd0 (o_pickF (v := .bool false) rfl rfl rfl) rfl ?_
      refine WQ_val rfl gd0 (o_assign (v := .bool false) rfl) rfl ?_
      refine WQ_nil ?_
      refine nrm ?_
      refine WC_ret ?_
      refine rtE ?_
      exact gv1 rfl rfl h

/-- spacecraft spacecraftlaw18.TmframeDecodes -/
def F4 (b_a1 : Option Addr) (b_n2 : Nat) (b_c3 : Nat) (w4 : World) (k : Value → World → Prop) : Prop :=
  if 3000 < (b_n2 : Int) then
  Does Try.prog 8 #[] w4 (fun v w6 => ∃ (t7 : Bool), v = .bool t7 ∧ k (.bool t7) w6)
else
  Does Try.prog 13 #[.slice b_a1 b_n2 b_c3] w4 (fun v w8 => ∃ (r9 r10 r11 r12 r13 : Int) (r_a14 : Option Addr) (r_n15 r_c16 : Nat) (r17 : Int) (r18 r19 r20 : Bool) (r21 r22 r23 : Int), v = .tuple #[.agg #[.int .i64 r9, .int .i64 r10, .int .i64 r11, .int .i64 r12, .int .i64 r13, .slice r_a14 r_n15 r_c16, .int .i64 r17, .bool r18, .bool r19, .bool r20, .int .i64 r21, .int .i64 r22], .int .i64 r23] ∧ New w8 26 [.int .i64 0, .int .i64 0, .int .i64 0, .int .i64 0, .int .i64 0, .slice none 0 0, .int .i64 0, .bool false, .bool false, .bool false, .int .i64 0, .int .i64 0] (fun p24 w25 => PutAll w25 p24 [.int .i64 r9, .int .i64 r10, .int .i64 r11, .int .i64 r12, .int .i64 r13, .slice r_a14 r_n15 r_c16, .int .i64 r17, .bool r18, .bool r19, .bool r20, .int .i64 r21, .int .i64 r22] (fun w26 => Does Try.prog 14 #[.slice b_a1 b_n2 b_c3] w26 (fun v w28 => ∃ (r29 r30 r31 r32 r33 : Int) (r_a34 : Option Addr) (r_n35 r_c36 : Nat) (r37 : Int) (r38 r39 r40 : Bool) (r41 r42 r43 : Int), v = .tuple #[.agg #[.int .i64 r29, .int .i64 r30, .int .i64 r31, .int .i64 r32, .int .i64 r33, .slice r_a34 r_n35 r_c36, .int .i64 r37, .bool r38, .bool r39, .bool r40, .int .i64 r41, .int .i64 r42], .int .i64 r43] ∧ New w28 26 [.int .i64 0, .int .i64 0, .int .i64 0, .int .i64 0, .int .i64 0, .slice none 0 0, .int .i64 0, .bool false, .bool false, .bool false, .int .i64 0, .int .i64 0] (fun p44 w45 => PutAll w45 p44 [.int .i64 r29, .int .i64 r30, .int .i64 r31, .int .i64 r32, .int .i64 r33, .slice r_a34 r_n35 r_c36, .int .i64 r37, .bool r38, .bool r39, .bool r40, .int .i64 r41, .int .i64 r42] (fun w46 => ∃ (x48 x49 x50 x51 x52 : Int) (x_a53 : Option Addr) (x_n54 x_c55 : Nat) (x56 : Int) (x57 x58 x59 : Bool) (x60 x61 : Int), Cells w46 p24 0 [.int .i64 x48, .int .i64 x49, .int .i64 x50, .int .i64 x51, .int .i64 x52, .slice x_a53 x_n54 x_c55, .int .i64 x56, .bool x57, .bool x58, .bool x59, .int .i64 x60, .int .i64 x61] ∧ ∃ (x63 x64 x65 x66 x67 : Int) (x_a68 : Option Addr) (x_n69 x_c70 : Nat) (x71 : Int) (x72 x73 x74 : Bool) (x75 x76 : Int), Cells w46 p44 0 [.int .i64 x63, .int .i64 x64, .int .i64 x65, .int .i64 x66, .int .i64 x67, .slice x_a68 x_n69 x_c70, .int .i64 x71, .bool x72, .bool x73, .bool x74, .int .i64 x75, .int .i64 x76] ∧ Does Try.prog 15 #[.agg #[.int .i64 x48, .int .i64 x49, .int .i64 x50, .int .i64 x51, .int .i64 x52, .slice x_a53 x_n54 x_c55, .int .i64 x56, .bool x57, .bool x58, .bool x59, .int .i64 x60, .int .i64 x61], .agg #[.int .i64 x63, .int .i64 x64, .int .i64 x65, .int .i64 x66, .int .i64 x67, .slice x_a68 x_n69 x_c70, .int .i64 x71, .bool x72, .bool x73, .bool x74, .int .i64 x75, .int .i64 x76]] w46 (fun v w78 => ∃ (x79 : Bool), v = .bool x79 ∧ if x79 = true then
    if r23 = r43 then
      Does Try.prog 8 #[] w78 (fun v w82 => ∃ (x83 : Bool), v = .bool x83 ∧ k (.bool x83) w82)
    else
      k (.bool false) w78
  else
    k (.bool false) w78)))))))
set_option maxRecDepth 100000 in
set_option maxHeartbeats 2000000 in
theorem w4 (b_a1 : Option Addr) (b_n2 : Nat) (b_c3 : Nat) (w4 : World) (k : Value → World → Prop) (h : F4 b_a1 b_n2 b_c3 w4 k) : Does Try.prog 4 #[.slice b_a1 b_n2 b_c3] w4 k := by
  refine enter 32 Try.func4 rfl rfl rfl ?_
  intro ρ hρ
  have e0 := hρ 0 _ rfl
  unfold F4 at h
  refine WC_seq ?_
  refine WC_region ?_
  refine WL_val gd0 ((o_assign (v := .bool false) rfl) _) rfl ?_
  refine WL_nil ?_
  refine nrm ?_
  refine WC_seq ?_
  refine WC_seq ?_
  refine WC_region ?_
  refine WL_val gd0 ((o_move (v := .slice b_a1 b_n2 b_c3) (by exact e0)) _) rfl ?_
  refine WL_val gd0 ((o_len Try.underlying22 rfl) _) rfl ?_
  refine WL_val gd0 ((o_gtr rfl rfl) _) rfl ?_
  refine WL_nil ?_
  refine nrm ?_
  refine WC_cond (t := (decide (3000 < (b_n2 : Int)))) rfl (fun hb5 => ?_) (fun hb5 => ?_)
  · rw [if_pos (of_decide_eq_true hb5)] at h
    refine WC_seq ?_
    refine WC_region ?_
    refine WL_call gd0 (o_call Try.call8 argNil _) rfl (h.mono ?_)
    rintro _ w6 ⟨t7, rfl, h⟩
    refine WL_val gd0 ((o_assign (v := .bool t7) rfl) _) rfl ?_
    refine WL_nil ?_
    refine nrm ?_
    refine WC_ret ?_
    refine rtT ?_
    refine rtE ?_
    exact gv1 rfl rfl h
  · rw [if_neg (of_decide_eq_false hb5)] at h
    refine WC_skip ?_
    refine nrm ?_
    refine WC_seq ?_
    refine WC_region ?_
    refine WL_val gd0 ((o_move (v := .slice b_a1 b_n2 b_c3) (by exact e0)) _) rfl ?_
    refine WL_call gd0 (o_call Try.call13 (argCons rfl argNil) _) rfl (h.mono ?_)
    rintro _ w8 ⟨r9, r10, r11, r12, r13, r_a14, r_n15, r_c16, r17, r18, r19, r20, r21, r22, r23, rfl, h⟩
    refine WL_val gd0 ((o_move (v := .tuple #[.agg #[.int .i64 r9, .int .i64 r10, .int .i64 r11, .int .i64 r12, .int .i64 r13, .slice r_a14 r_n15 r_c16, .int .i64 r17, .bool r18, .bool r19, .bool r20, .int .i64 r21, .int .i64 r22], .int .i64 r23]) rfl) _) rfl ?_
    refine WL_val gd0 ((o_extract (vs := [.agg #[.int .i64 r9, .int .i64 r10, .int .i64 r11, .int .i64 r12, .int .i64 r13, .slice r_a14 r_n15 r_c16, .int .i64 r17, .bool r18, .bool r19, .bool r20, .int .i64 r21, .int .i64 r22], .int .i64 r23]) (r := .agg #[.int .i64 r9, .int .i64 r10, .int .i64 r11, .int .i64 r12, .int .i64 r13, .slice r_a14 r_n15 r_c16, .int .i64 r17, .bool r18, .bool r19, .bool r20, .int .i64 r21, .int .i64 r22]) rfl rfl) _) rfl ?_
    refine WL_val gd0 ((o_extract (vs := [.agg #[.int .i64 r9, .int .i64 r10, .int .i64 r11, .int .i64 r12, .int .i64 r13, .slice r_a14 r_n15 r_c16, .int .i64 r17, .bool r18, .bool r19, .bool r20, .int .i64 r21, .int .i64 r22], .int .i64 r23]) (r := .int .i64 r23) rfl rfl) _) rfl ?_
    have h := New.out h
    refine WL_val gd0 (o_alloc (z := .agg #[.int .i64 0, .int .i64 0, .int .i64 0, .int .i64 0, .int .i64 0, .slice none 0 0, .int .i64 0, .bool false, .bool false, .bool false, .int .i64 0, .int .i64 0]) (cs := [.int .i64 0, .int .i64 0, .int .i64 0, .int .i64 0, .int .i64 0, .slice none 0 0, .int .i64 0, .bool false, .bool false, .bool false, .int .i64 0, .int .i64 0]) Try.zeroValue26 rfl) rfl ?_
    generalize hp24 : fresh w8 = p24 at h ⊢
    generalize hw25 : push w8 26 [.int .i64 0, .int .i64 0, .int .i64 0, .int .i64 0, .int .i64 0, .slice none 0 0, .int .i64 0, .bool false, .bool false, .bool false, .int .i64 0, .int .i64 0] = w25 at h ⊢
    try dsimp only at h
    obtain ⟨c27, h⟩ := h
    refine WL_act gd0 (o_storeAgg (vs := [.int .i64 r9, .int .i64 r10, .int .i64 r11, .int .i64 r12, .int .i64 r13, .slice r_a14 r_n15 r_c16, .int .i64 r17, .bool r18, .bool r19, .bool r20, .int .i64 r21, .int .i64 r22]) Try.sizeOf26 rfl rfl rfl c27) ?_
    generalize hw26 : setAll w25 p24 0 [.int .i64 r9, .int .i64 r10, .int .i64 r11, .int .i64 r12, .int .i64 r13, .slice r_a14 r_n15 r_c16, .int .i64 r17, .bool r18, .bool r19, .bool r20, .int .i64 r21, .int .i64 r22] = w26 at h ⊢
    try dsimp only at h
    refine WL_val gd0 ((o_assign (v := .int .i64 r23) rfl) _) rfl ?_
    refine WL_nil ?_
    refine nrm ?_
    refine WC_seq ?_
    refine WC_region ?_
    refine WL_val gd0 ((o_move (v := .slice b_a1 b_n2 b_c3) (by exact e0)) _) rfl ?_
    refine WL_call gd0 (o_call Try.call14 (argCons rfl argNil) _) rfl (h.mono ?_)
    rintro _ w28 ⟨r29, r30, r31, r32, r33, r_a34, r_n35, r_c36, r37, r38, r39, r40, r41, r42, r43, rfl, h⟩
    refine WL_val gd0 ((o_move (v := .tuple #[.agg #[.int .i64 r29, .int .i64 r30, .int .i64 r31, .int .i64 r32, .int .i64 r33, .slice r_a34 r_n35 r_c36, .int .i64 r37, .bool r38, .bool r39, .bool r40, .int .i64 r41, .int .i64 r42], .int .i64 r43]) rfl) _) rfl ?_
    refine WL_val gd0 ((o_extract (vs := [.agg #[.int .i64 r29, .int .i64 r30, .int .i64 r31, .int .i64 r32, .int .i64 r33, .slice r_a34 r_n35 r_c36, .int .i64 r37, .bool r38, .bool r39, .bool r40, .int .i64 r41, .int .i64 r42], .int .i64 r43]) (r := .agg #[.int .i64 r29, .int .i64 r30, .int .i64 r31, .int .i64 r32, .int .i64 r33, .slice r_a34 r_n35 r_c36, .int .i64 r37, .bool r38, .bool r39, .bool r40, .int .i64 r41, .int .i64 r42]) rfl rfl) _) rfl ?_
    refine WL_val gd0 ((o_extract (vs := [.agg #[.int .i64 r29, .int .i64 r30, .int .i64 r31, .int .i64 r32, .int .i64 r33, .slice r_a34 r_n35 r_c36, .int .i64 r37, .bool r38, .bool r39, .bool r40, .int .i64 r41, .int .i64 r42], .int .i64 r43]) (r := .int .i64 r43) rfl rfl) _) rfl ?_
    have h := New.out h
    refine WL_val gd0 (o_alloc (z := .agg #[.int .i64 0, .int .i64 0, .int .i64 0, .int .i64 0, .int .i64 0, .slice none 0 0, .int .i64 0, .bool false, .bool false, .bool false, .int .i64 0, .int .i64 0]) (cs := [.int .i64 0, .int .i64 0, .int .i64 0, .int .i64 0, .int .i64 0, .slice none 0 0, .int .i64 0, .bool false, .bool false, .bool false, .int .i64 0, .int .i64 0]) Try.zeroValue26 rfl) rfl ?_
    generalize hp44 : fresh w28 = p44 at h ⊢
    generalize hw45 : push w28 26 [.int .i64 0, .int .i64 0, .int .i64 0, .int .i64 0, .int .i64 0, .slice none 0 0, .int .i64 0, .bool false, .bool false, .bool false, .int .i64 0, .int .i64 0] = w45 at h ⊢
    try dsimp only at h
    obtain ⟨c47, h⟩ := h
    refine WL_act gd0 (o_storeAgg (vs := [.int .i64 r29, .int .i64 r30, .int .i64 r31, .int .i64 r32, .int .i64 r33, .slice r_a34 r_n35 r_c36, .int .i64 r37, .bool r38, .bool r39, .bool r40, .int .i64 r41, .int .i64 r42]) Try.sizeOf26 rfl rfl rfl c47) ?_
    generalize hw46 : setAll w45 p44 0 [.int .i64 r29, .int .i64 r30, .int .i64 r31, .int .i64 r32, .int .i64 r33, .slice r_a34 r_n35 r_c36, .int .i64 r37, .bool r38, .bool r39, .bool r40, .int .i64 r41, .int .i64 r42] = w46 at h ⊢
    try dsimp only at h
    refine WL_val gd0 ((o_assign (v := .int .i64 r43) rfl) _) rfl ?_
    refine WL_nil ?_
    refine nrm ?_
    refine WC_seq ?_
    refine WC_region ?_
    obtain ⟨x48, x49, x50, x51, x52, x_a53, x_n54, x_c55, x56, x57, x58, x59, x60, x61, hc62, h⟩ := h
    refine WL_val gd0 (o_loadAgg (vs := [.int .i64 x48, .int .i64 x49, .int .i64 x50, .int .i64 x51, .int .i64 x52, .slice x_a53 x_n54 x_c55, .int .i64 x56, .bool x57, .bool x58, .bool x59, .int .i64 x60, .int .i64 x61]) Try.isAgg26 Try.sizeOf26 rfl hc62) rfl ?_
    obtain ⟨x63, x64, x65, x66, x67, x_a68, x_n69, x_c70, x71, x72, x73, x74, x75, x76, hc77, h⟩ := h
    refine WL_val gd0 (o_loadAgg (vs := [.int .i64 x63, .int .i64 x64, .int .i64 x65, .int .i64 x66, .int .i64 x67, .slice x_a68 x_n69 x_c70, .int .i64 x71, .bool x72, .bool x73, .bool x74, .int .i64 x75, .int .i64 x76]) Try.isAgg26 Try.sizeOf26 rfl hc77) rfl ?_
    refine WL_call gd0 (o_call Try.call15 (argCons rfl (argCons rfl argNil)) _) rfl (h.mono ?_)
    rintro _ w78 ⟨x79, rfl, h⟩
    refine WL_val gd0 ((o_move (v := .bool x79) rfl) _) rfl ?_
    refine bsplit x79 (fun hb80 => ?_) (fun hb80 => ?_)
    · rw [if_pos hb80] at h
      refine WL_val (gdY (b := x79) 24 rfl rfl hb80) ((o_move (v := .int .i64 r23) rfl) _) rfl ?_
      refine WL_val (gdY (b := x79) 24 rfl rfl hb80) ((o_move (v := .int .i64 r43) rfl) _) rfl ?_
      refine WL_val (gdY (b := x79) 24 rfl rfl hb80) ((o_eql rfl rfl) _) rfl ?_
      refine WL_val gd0 ((o_pickT (v := .bool (decide (r23 = r43))) rfl hb80 rfl) _) rfl ?_
      refine WL_val gd0 ((o_move (v := .bool (decide (r23 = r43))) rfl) _) rfl ?_
      refine bsplit (decide (r23 = r43)) (fun hb81 => ?_) (fun hb81 => ?_)
      · rw [if_pos (of_decide_eq_true hb81)] at h
        refine WL_call (gdY (b := (decide (r23 = r43))) 29 rfl rfl hb81) (o_call Try.call8 argNil _) rfl (h.mono ?_)
        rintro _ w82 ⟨x83, rfl, h⟩
        refine WL_val gd0 ((o_pickT (v := .bool x83) rfl hb81 rfl) _) rfl ?_
        refine WL_val gd0 ((o_assign (v := .bool x83) rfl) _) rfl ?_
        refine WL_nil ?_
        refine nrm ?_
        refine WC_ret ?_
        refine rtE ?_
        exact gv1 rfl rfl h
      · rw [if_neg (of_decide_eq_false hb81)] at h
        refine WL_skip (gdN (b := (decide (r23 = r43))) 29 rfl rfl hb81) rfl ?_
        refine WL_val gd0 ((o_pickF (v := .bool false) rfl hb81 rfl) _) rfl ?_
        refine WL_val gd0 ((o_assign (v := .bool false) rfl) _) rfl ?_
        refine WL_nil ?_
        refine nrm ?_
        refine WC_ret ?_
        refine rtE ?_
        exact gv1 rfl rfl h
    · rw [if_neg (neT hb80)] at h
      refine WL_skip (gdN (b := x79) 24 rfl rfl hb80) rfl ?_
      refine WL_skip (gdN (b := x79) 24 rfl rfl hb80) rfl ?_
      refine WL_skip (gdN (b := x79) 24 rfl rfl hb80) rfl ?_
      refine WL_val gd0 ((o_pickF (v := .bool false) rfl hb80 rfl) _) rfl ?_
      refine WL_val gd0 ((o_move (v := .bool false) rfl) _) rfl ?_
      refine WL_skip (gdN (b := false) 29 rfl rfl rfl) rfl ?_
      refine WL_val gd0 ((o_pickF (v := .bool false) rfl rfl rfl) _) rfl ?_
      refine WL_val gd0 ((o_assign (v := .bool false) rfl) _) rfl ?_
      refine WL_nil ?_
      refine nrm ?_
      refine WC_ret ?_
      refine rtE ?_
      exact gv1 rfl rfl h

/-- spacecraft spacecraftlaw18.TmframeBack -/
def F5 (f1 : Int) (f2 : Int) (f3 : Int) (f4 : Int) (f5 : Int) (f_a6 : Option Addr) (f_n7 : Nat) (f_c8 : Nat) (f9 : Int) (f10 : Bool) (f11 : Bool) (f12 : Bool) (f13 : Int) (f14 : Int) (w15 : World) (k : Value → World → Prop) : Prop :=
  New w15 26 [.int .i64 f1, .int .i64 f2, .int .i64 f3, .int .i64 f4, .int .i64 f5, .slice f_a6 f_n7 f_c8, .int .i64 f9, .bool f10, .bool f11, .bool f12, .int .i64 f13, .int .i64 f14] (fun p16 w17 => ∃ (x18 x19 x20 x21 x22 : Int) (x_a23 : Option Addr) (x_n24 x_c25 : Nat) (x26 : Int) (x27 x28 x29 : Bool) (x30 x31 : Int), Cells w17 p16 0 [.int .i64 x18, .int .i64 x19, .int .i64 x20, .int .i64 x21, .int .i64 x22, .slice x_a23 x_n24 x_c25, .int .i64 x26, .bool x27, .bool x28, .bool x29, .int .i64 x30, .int .i64 x31] ∧ Does Try.prog 9 #[.agg #[.int .i64 x18, .int .i64 x19, .int .i64 x20, .int .i64 x21, .int .i64 x22, .slice x_a23 x_n24 x_c25, .int .i64 x26, .bool x27, .bool x28, .bool x29, .int .i64 x30, .int .i64 x31]] w17 (fun v w33 => ∃ (r_a34 : Option Addr) (r_n35 r_c36 : Nat) (r37 : Int), v = .tuple #[.slice r_a34 r_n35 r_c36, .int .i64 r37] ∧ if r37 ≠ 0 then
  if (r_n35 : Int) = 0 then
    ∃ (x40 x41 x42 x43 x44 : Int) (x_a45 : Option Addr) (x_n46 x_c47 : Nat) (x48 : Int) (x49 x50 x51 : Bool) (x52 x53 : Int), Cells w33 p16 0 [.int .i64 x40, .int .i64 x41, .int .i64 x42, .int .i64 x43, .int .i64 x44, .slice x_a45 x_n46 x_c47, .int .i64 x48, .bool x49, .bool x50, .bool x51, .int .i64 x52, .int .i64 x53] ∧ Does Try.prog 11 #[.agg #[.int .i64 x40, .int .i64 x41, .int .i64 x42, .int .i64 x43, .int .i64 x44, .slice x_a45 x_n46 x_c47, .int .i64 x48, .bool x49, .bool x50, .bool x51, .int .i64 x52, .int .i64 x53]] w33 (fun v w55 => ∃ (x56 : Bool), v = .bool x56 ∧ if (!x56) = true then
      Does Try.prog 8 #[] w55 (fun v w58 => ∃ (x59 : Bool), v = .bool x59 ∧ k (.bool x59) w58)
    else
      k (.bool false) w55)
  else
    k (.bool false) w33
else
  Does Try.prog 13 #[.slice r_a34 r_n35 r_c36] w33 (fun v w60 => ∃ (r61 r62 r63 r64 r65 : Int) (r_a66 : Option Addr) (r_n67 r_c68 : Nat) (r69 : Int) (r70 r71 r72 : Bool) (r73 r74 r75 : Int), v = .tuple #[.agg #[.int .i64 r61, .int .i64 r62, .int .i64 r63, .int .i64 r64, .int .i64 r65, .slice r_a66 r_n67 r_c68, .int .i64 r69, .bool r70, .bool r71, .bool r72, .int .i64 r73, .int .i64 r74], .int .i64 r75] ∧ New w60 26 [.int .i64 0, .int .i64 0, .int .i64 0, .int .i64 0, .int .i64 0, .slice none 0 0, .int .i64 0, .bool false, .bool false, .bool false, .int .i64 0, .int .i64 0] (fun p76 w77 => PutAll w77 p76 [.int .i64 r61, .int .i64 r62, .int .i64 r63, .int .i64 r64, .int .i64 r65, .slice r_a66 r_n67 r_c68, .int .i64 r69, .bool r70, .bool r71, .bool r72, .int .i64 r73, .int .i64 r74] (fun w78 => ∃ (x_a80 : Option Addr) (x_n81 x_c82 : Nat), w78.cell? (p16.add 5) = some (.slice x_a80 x_n81 x_c82) ∧ if (r_n35 : Int) = (IntKind.i64.wrap ((x_n81 : Int) + 12)) then
    if r75 = 0 then
      ∃ (x86 x87 x88 x89 x90 : Int) (x_a91 : Option Addr) (x_n92 x_c93 : Nat) (x94 : Int) (x95 x96 x97 : Bool) (x98 x99 : Int), Cells w78 p76 0 [.int .i64 x86, .int .i64 x87, .int .i64 x88, .int .i64 x89, .int .i64 x90, .slice x_a91 x_n92 x_c93, .int .i64 x94, .bool x95, .bool x96, .bool x97, .int .i64 x98, .int .i64 x99] ∧ ∃ (x101 x102 x103 x104 x105 : Int) (x_a106 : Option Addr) (x_n107 x_c108 : Nat) (x109 : Int) (x110 x111 x112 : Bool) (x113 x114 : Int), Cells w78 p16 0 [.int .i64 x101, .int .i64 x102, .int .i64 x103, .int .i64 x104, .int .i64 x105, .slice x_a106 x_n107 x_c108, .int .i64 x109, .bool x110, .bool x111, .bool x112, .int .i64 x113, .int .i64 x114] ∧ Does Try.prog 15 #[.agg #[.int .i64 x86, .int .i64 x87, .int .i64 x88, .int .i64 x89, .int .i64 x90, .slice x_a91 x_n92 x_c93, .int .i64 x94, .bool x95, .bool x96, .bool x97, .int .i64 x98, .int .i64 x99], .agg #[.int .i64 x101, .int .i64 x102, .int .i64 x103, .int .i64 x104, .int .i64 x105, .slice x_a106 x_n107 x_c108, .int .i64 x109, .bool x110, .bool x111, .bool x112, .int .i64 x113, .int .i64 x114]] w78 (fun v w116 => ∃ (x117 : Bool), v = .bool x117 ∧ if x117 = true then
        Does Try.prog 8 #[] w116 (fun v w119 => ∃ (x120 : Bool), v = .bool x120 ∧ k (.bool x120) w119)
      else
        k (.bool false) w116)
    else
      k (.bool false) w78
  else
    k (.bool false) w78)))))
set_option maxRecDepth 100000 in
set_option maxHeartbeats 2000000 in
theorem w5 (f1 : Int) (f2 : Int) (f3 : Int) (f4 : Int) (f5 : Int) (f_a6 : Option Addr) (f_n7 : Nat) (f_c8 : Nat) (f9 : Int) (f10 : Bool) (f11 : Bool) (f12 : Bool) (f13 : Int) (f14 : Int) (w15 : World) (k : Value → World → Prop) (h : F5 f1 f2 f3 f4 f5 f_a6 f_n7 f_c8 f9 f10 f11 f12 f13 f14 w15 k) : Does Try.prog 5 #[.agg #[.int .i64 f1, .int .i64 f2, .int .i64 f3, .int .i64 f4, .int .i64 f5, .slice f_a6 f_n7 f_c8, .int .i64 f9, .bool f10, .bool f11, .bool f12, .int .i64 f13, .int .i64 f14]] w15 k := by
  refine enter 49 Try.func5 rfl rfl rfl ?_
  intro ρ hρ
  have e0 := hρ 0 _ rfl
  unfold F5 at h
  refine WC_seq ?_
  refine WC_region ?_
  have h := New.out h
  refine WL_val gd0 (o_box (v := .agg #[.int .i64 f1, .int .i64 f2, .int .i64 f3, .int .i64 f4, .int .i64 f5, .slice f_a6 f_n7 f_c8, .int .i64 f9, .bool f10, .bool f11, .bool f12, .int .i64 f13, .int .i64 f14]) (cs := [.int .i64 f1, .int .i64 f2, .int .i64 f3, .int .i64 f4, .int .i64 f5, .slice f_a6 f_n7 f_c8, .int .i64 f9, .bool f10, .bool f11, .bool f12, .int .i64 f13, .int .i64 f14]) (by exact e0) rfl) rfl ?_
  generalize hp16 : fresh w15 = p16 at h ⊢
  generalize hw17 : push w15 26 [.int .i64 f1, .int .i64 f2, .int .i64 f3, .int .i64 f4, .int .i64 f5, .slice f_a6 f_n7 f_c8, .int .i64 f9, .bool f10, .bool f11, .bool f12, .int .i64 f13, .int .i64 f14] = w17 at h ⊢
  try dsimp only at h
  refine WL_val gd0 ((o_assign (v := .bool false) rfl) _) rfl ?_
  refine WL_nil ?_
  refine nrm ?_
  refine WC_seq ?_
  refine WC_region ?_
  obtain ⟨x18, x19, x20, x21, x22, x_a23, x_n24, x_c25, x26, x27, x28, x29, x30, x31, hc32, h⟩ := h
  refine WL_val gd0 (o_loadAgg (vs := [.int .i64 x18, .int .i64 x19, .int .i64 x20, .int .i64 x21, .int .i64 x22, .slice x_a23 x_n24 x_c25, .int .i64 x26, .bool x27, .bool x28, .bool x29, .int .i64 x30, .int .i64 x31]) Try.isAgg26 Try.sizeOf26 rfl hc32) rfl ?_
  refine WL_call gd0 (o_call Try.call9 (argCons rfl argNil) _) rfl (h.mono ?_)
  rintro _ w33 ⟨r_a34, r_n35, r_c36, r37, rfl, h⟩
  refine WL_val gd0 ((o_move (v := .tuple #[.slice r_a34 r_n35 r_c36, .int .i64 r37]) rfl) _) rfl ?_
  refine WL_val gd0 ((o_extract (vs := [.slice r_a34 r_n35 r_c36, .int .i64 r37]) (r := .slice r_a34 r_n35 r_c36) rfl rfl) _) rfl ?_
  refine WL_val gd0 ((o_extract (vs := [.slice r_a34 r_n35 r_c36, .int .i64 r37]) (r := .int .i64 r37) rfl rfl) _) rfl ?_
  refine WL_val gd0 ((o_assign (v := .slice r_a34 r_n35 r_c36) rfl) _) rfl ?_
  refine WL_val gd0 ((o_assign (v := .int .i64 r37) rfl) _) rfl ?_
  refine WL_nil ?_
  refine nrm ?_
  refine WC_seq ?_
  refine WC_seq ?_
  refine WC_region ?_
  refine WL_val gd0 ((o_move (v := .int .i64 r37) rfl) _) rfl ?_
  refine WL_val gd0 ((o_neq rfl rfl) _) rfl ?_
  refine WL_nil ?_
  refine nrm ?_
  refine WC_cond (t := (decide (r37 ≠ 0))) rfl (fun hb38 => ?_) (fun hb38 => ?_)
  · rw [if_pos (of_decide_eq_true hb38)] at h
    refine WC_seq ?_
    refine WC_region ?_
    refine WL_val gd0 ((o_move (v := .slice r_a34 r_n35 r_c36) rfl) _) rfl ?_
    refine WL_val gd0 ((o_len Try.underlying22 rfl) _) rfl ?_
    refine WL_val gd0 ((o_eql rfl rfl) _) rfl ?_
    refine WL_val gd0 ((o_move (v := .bool (decide ((r_n35 : Int) = 0))) rfl) _) rfl ?_
    refine bsplit (decide ((r_n35 : Int) = 0)) (fun hb39 => ?_) (fun hb39 => ?_)
    · rw [if_pos (of_decide_eq_true hb39)] at h
      obtain ⟨x40, x41, x42, x43, x44, x_a45, x_n46, x_c47, x48, x49, x50, x51, x52, x53, hc54, h⟩ := h
      refine WL_val (gdY (b := (decide ((r_n35 : Int) = 0))) 17 rfl rfl hb39) (o_loadAgg (vs := [.int .i64 x40, .int .i64 x41, .int .i64 x42, .int .i64 x43, .int .i64 x44, .slice x_a45 x_n46 x_c47, .int .i64 x48, .bool x49, .bool x50, .bool x51, .int .i64 x52, .int .i64 x53]) Try.isAgg26 Try.sizeOf26 rfl hc54) rfl ?_
      refine WL_call (gdY (b := (decide ((r_n35 : Int) = 0))) 17 rfl rfl hb39) (o_call Try.call11 (argCons rfl argNil) _) rfl (h.mono ?_)
      rintro _ w55 ⟨x56, rfl, h⟩
      refine WL_val (gdY (b := (decide ((r_n35 : Int) = 0))) 17 rfl rfl hb39) ((o_not rfl) _) rfl ?_
      refine WL_val gd0 ((o_pickT (v := .bool (!x56)) rfl hb39 rfl) _) rfl ?_
      refine WL_val gd0 ((o_move (v := .bool (!x56)) rfl) _) rfl ?_
      refine bsplit (!x56) (fun hb57 => ?_) (fun hb57 => ?_)
      · rw [if_pos hb57] at h
        refine WL_call (gdY (b := (!x56)) 22 rfl rfl hb57) (o_call Try.call8 argNil _) rfl (h.mono ?_)
        rintro _ w58 ⟨x59, rfl, h⟩
        refine WL_val gd0 ((o_pickT (v := .bool x59) rfl hb57 rfl) _) rfl ?_
        refine WL_val gd0 ((o_assign (v := .bool x59) rfl) _) rfl ?_
        refine WL_nil ?_
        refine nrm ?_
        refine WC_ret ?_
        refine rtT ?_
        refine rtE ?_
        exact gv1 rfl rfl h
      · rw [if_neg (neT hb57)] at h
        refine WL_skip (gdN (b := (!x56)) 22 rfl rfl hb57) rfl ?_
        refine WL_val gd0 ((o_pickF (v := .bool false) rfl hb57 rfl) _) rfl ?_
        refine WL_val gd0 ((o_assign (v := .bool false) rfl) _) rfl ?_
        refine WL_nil ?_
        refine nrm ?_
        refine WC_ret ?_
        refine rtT ?_
        refine rtE ?_
        exact gv1 rfl rfl h
    · rw [if_neg (of_decide_eq_false hb39)] at h
      refine WL_skip (gdN (b := (decide ((r_n35 : Int) = 0))) 17 rfl rfl hb39) rfl ?_
      refine WL_skip (gdN (b := (decide ((r_n35 : Int) = 0))) 17 rfl rfl hb39) rfl ?_
      refine WL_skip (gdN (b := (decide ((r_n35 : Int) = 0))) 17 rfl rfl hb39) rfl ?_
      refine WL_val gd0 ((o_pickF (v := .bool false) rfl hb39 rfl) _) rfl ?_
      refine WL_val gd0 ((o_move (v := .bool false) rfl) _) rfl ?_
      refine WL_skip (gdN (b := false) 22 rfl rfl rfl) rfl ?_
      refine WL_val gd0 ((o_pickF (v := .bool false) rfl rfl rfl) _) rfl ?_
      refine WL_val gd0 ((o_assign (v := .bool false) rfl) _) rfl ?_
      refine WL_nil ?_
      refine nrm ?_
      refine WC_ret ?_
      refine rtT ?_
      refine rtE ?_
      exact gv1 rfl rfl h
  · rw [if_neg (of_decide_eq_false hb38)] at h
    refine WC_skip ?_
    refine nrm ?_
    refine WC_seq ?_
    refine WC_region ?_
    refine WL_val gd0 ((o_move (v := .slice r_a34 r_n35 r_c36) rfl) _) rfl ?_
    refine WL_call gd0 (o_call Try.call13 (argCons rfl argNil) _) rfl (h.mono ?_)
    rintro _ w60 ⟨r61, r62, r63, r64, r65, r_a66, r_n67, r_c68, r69, r70, r71, r72, r73, r74, r75, rfl, h⟩
    refine WL_val gd0 ((o_move (v := .tuple #[.agg #[.int .i64 r61, .int .i64 r62, .int .i64 r63, .int .i64 r64, .int .i64 r65, .slice r_a66 r_n67 r_c68, .int .i64 r69, .bool r70, .bool r71, .bool r72, .int .i64 r73, .int .i64 r74], .int .i64 r75]) rfl) _) rfl ?_
    refine WL_val gd0 ((o_extract (vs := [.agg #[.int .i64 r61, .int .i64 r62, .int .i64 r63, .int .i64 r64, .int .i64 r65, .slice r_a66 r_n67 r_c68, .int .i64 r69, .bool r70, .bool r71, .bool r72, .int .i64 r73, .int .i64 r74], .int .i64 r75]) (r := .agg #[.int .i64 r61, .int .i64 r62, .int .i64 r63, .int .i64 r64, .int .i64 r65, .slice r_a66 r_n67 r_c68, .int .i64 r69, .bool r70, .bool r71, .bool r72, .int .i64 r73, .int .i64 r74]) rfl rfl) _) rfl ?_
    refine WL_val gd0 ((o_extract (vs := [.agg #[.int .i64 r61, .int .i64 r62, .int .i64 r63, .int .i64 r64, .int .i64 r65, .slice r_a66 r_n67 r_c68, .int .i64 r69, .bool r70, .bool r71, .bool r72, .int .i64 r73, .int .i64 r74], .int .i64 r75]) (r := .int .i64 r75) rfl rfl) _) rfl ?_
    have h := New.out h
    refine WL_val gd0 (o_alloc (z := .agg #[.int .i64 0, .int .i64 0, .int .i64 0, .int .i64 0, .int .i64 0, .slice none 0 0, .int .i64 0, .bool false, .bool false, .bool false, .int .i64 0, .int .i64 0]) (cs := [.int .i64 0, .int .i64 0, .int .i64 0, .int .i64 0, .int .i64 0, .slice none 0 0, .int .i64 0, .bool false, .bool false, .bool false, .int .i64 0, .int .i64 0]) Try.zeroValue26 rfl) rfl ?_
    generalize hp76 : fresh w60 = p76 at h ⊢
    generalize hw77 : push w60 26 [.int .i64 0, .int .i64 0, .int .i64 0, .int .i64 0, .int .i64 0, .slice none 0 0, .int .i64 0, .bool false, .bool false, .bool false, .int .i64 0, .int .i64 0] = w77 at h ⊢
    try dsimp only at h
    obtain ⟨c79, h⟩ := h
    refine WL_act gd0 (o_storeAgg (vs := [.int .i64 r61, .int .i64 r62, .int .i64 r63, .int .i64 r64, .int .i64 r65, .slice r_a66 r_n67 r_c68, .int .i64 r69, .bool r70, .bool r71, .bool r72, .int .i64 r73, .int .i64 r74]) Try.sizeOf26 rfl rfl rfl c79) ?_
    generalize hw78 : setAll w77 p76 0 [.int .i64 r61, .int .i64 r62, .int .i64 r63, .int .i64 r64, .int .i64 r65, .slice r_a66 r_n67 r_c68, .int .i64 r69, .bool r70, .bool r71, .bool r72, .int .i64 r73, .int .i64 r74] = w78 at h ⊢
    try dsimp only at h
    refine WL_val gd0 ((o_assign (v := .int .i64 r75) rfl) _) rfl ?_
    refine WL_nil ?_
    refine nrm ?_
    refine WC_seq ?_
    refine WC_region ?_
    refine WL_val gd0 ((o_move (v := .slice r_a34 r_n35 r_c36) rfl) _) rfl ?_
    refine WL_val gd0 ((o_len Try.underlying22 rfl) _) rfl ?_
    refine WL_val gd0 ((o_fieldAddr 5 Try.underlying26 rfl Try.sizeOf22 rfl rfl rfl) _) rfl ?_
    obtain ⟨x_a80, x_n81, x_c82, hc83, h⟩ := h
    refine WL_val gd0 (o_load Try.isAgg22 rfl hc83) rfl ?_
    refine WL_val gd0 ((o_len Try.underlying22 rfl) _) rfl ?_
    refine WL_val gd0 ((o_add rfl rfl) _) rfl ?_
    refine WL_val gd0 ((o_eql rfl rfl) _) rfl ?_
    refine WL_val gd0 ((o_move (v := .bool (decide ((r_n35 : Int) = (IntKind.i64.wrap ((x_n81 : Int) + 12))))) rfl) _) rfl ?_
    refine bsplit (decide ((r_n35 : Int) = (IntKind.i64.wrap ((x_n81 : Int) + 12)))) (fun hb84 => ?_) (fun hb84 => ?_)
    · rw [if_pos (of_decide_eq_true hb84)] at h
      refine WL_val (gdY (b := (decide ((r_n35 : Int) = (IntKind.i64.wrap ((x_n81 : Int) + 12))))) 37 rfl rfl hb84) ((o_move (v := .int .i64 r75) rfl) _) rfl ?_
      refine WL_val (gdY (b := (decide ((r_n35 : Int) = (IntKind.i64.wrap ((x_n81 : Int) + 12))))) 37 rfl rfl hb84) ((o_eql rfl rfl) _) rfl ?_
      refine WL_val gd0 ((o_pickT (v := .bool (decide (r75 = 0))) rfl hb84 rfl) _) rfl ?_
      refine WL_val gd0 ((o_move (v := .bool (decide (r75 = 0))) rfl) _) rfl ?_
      refine bsplit (decide (r75 = 0)) (fun hb85 => ?_) (fun hb85 => ?_)
      · rw [if_pos (of_decide_eq_true hb85)] at h
        obtain ⟨x86, x87, x88, x89, x90, x_a91, x_n92, x_c93, x94, x95, x96, x97, x98, x99, hc100, h⟩ := h
        refine WL_val (gdY (b := (decide (r75 = 0))) 41 rfl rfl hb85) (o_loadAgg (vs := [.int .i64 x86, .int .i64 x87, .int .i64 x88, .int .i64 x89, .int .i64 x90, .slice x_a91 x_n92 x_c93, .int .i64 x94, .bool x95, .bool x96, .bool x97, .int .i64 x98, .int .i64 x99]) Try.isAgg26 Try.sizeOf26 rfl hc100) rfl ?_
        obtain ⟨x101, x102, x103, x104, x105, x_a106, x_n107, x_c108, x109, x110, x111, x112, x113, x114, hc115, h⟩ := h
        refine WL_val (gdY (b := (decide (r75 = 0))) 41 rfl rfl hb85) (o_loadAgg (vs := [.int .i64 x101, .int .i64 x102, .int .i64 x103, .int .i64 x104, .int .i64 x105, .slice x_a106 x_n107 x_c108, .int .i64 x109, .bool x110, .bool x111, .bool x112, .int .i64 x113, .int .i64 x114]) Try.isAgg26 Try.sizeOf26 rfl hc115) rfl ?_
        refine WL_call (gdY (b := (decide (r75 = 0))) 41 rfl rfl hb85) (o_call Try.call15 (argCons rfl (argCons rfl argNil)) _) rfl (h.mono ?_)
        rintro _ w116 ⟨x117, rfl, h⟩
        refine WL_val gd0 ((o_pickT (v := .bool x117) rfl hb85 rfl) _) rfl ?_
        refine WL_val gd0 ((o_move (v := .bool x117) rfl) _) rfl ?_
        refine bsplit x117 (fun hb118 => ?_) (fun hb118 => ?_)
        · rw [if_pos hb118] at h
          refine WL_call (gdY (b := x117) 46 rfl rfl hb118) (o_call Try.call8 argNil _) rfl (h.mono ?_)
          rintro _ w119 ⟨x120, rfl, h⟩
          refine WL_val gd0 ((o_pickT (v := .bool x120) rfl hb118 rfl) _) rfl ?_
          refine WL_val gd0 ((o_assign (v := .bool x120) rfl) _) rfl ?_
          refine WL_nil ?_
          refine nrm ?_
          refine WC_ret ?_
          refine rtE ?_
          exact gv1 rfl rfl h
        · rw [if_neg (neT hb118)] at h
          refine WL_skip (gdN (b := x117) 46 rfl rfl hb118) rfl ?_
          refine WL_val gd0 ((o_pickF (v := .bool false) rfl hb118 rfl) _) rfl ?_
          refine WL_val gd0 ((o_assign (v := .bool false) rfl) _) rfl ?_
          refine WL_nil ?_
          refine nrm ?_
          refine WC_ret ?_
          refine rtE ?_
          exact gv1 rfl rfl h
      · rw [if_neg (of_decide_eq_false hb85)] at h
        refine WL_skip (gdN (b := (decide (r75 = 0))) 41 rfl rfl hb85) rfl ?_
        refine WL_skip (gdN (b := (decide (r75 = 0))) 41 rfl rfl hb85) rfl ?_
        refine WL_skip (gdN (b := (decide (r75 = 0))) 41 rfl rfl hb85) rfl ?_
        refine WL_val gd0 ((o_pickF (v := .bool false) rfl hb85 rfl) _) rfl ?_
        refine WL_val gd0 ((o_move (v := .bool false) rfl) _) rfl ?_
        refine WL_skip (gdN (b := false) 46 rfl rfl rfl) rfl ?_
        refine WL_val gd0 ((o_pickF (v := .bool false) rfl rfl rfl) _) rfl ?_
        refine WL_val gd0 ((o_assign (v := .bool false) rfl) _) rfl ?_
        refine WL_nil ?_
        refine nrm ?_
        refine WC_ret ?_
        refine rtE ?_
        exact gv1 rfl rfl h
    · rw [if_neg (of_decide_eq_false hb84)] at h
      refine WL_skip (gdN (b := (decide ((r_n35 : Int) = (IntKind.i64.wrap ((x_n81 : Int) + 12))))) 37 rfl rfl hb84) rfl ?_
      refine WL_skip (gdN (b := (decide ((r_n35 : Int) = (IntKind.i64.wrap ((x_n81 : Int) + 12))))) 37 rfl rfl hb84) rfl ?_
      refine WL_val gd0 ((o_pickF (v := .bool false) rfl hb84 rfl) _) rfl ?_
      refine WL_val gd0 ((o_move (v := .bool false) rfl) _) rfl ?_
      refine WL_skip (gdN (b := false) 41 rfl rfl rfl) rfl ?_
      refine WL_skip (gdN (b := false) 41 rfl rfl rfl) rfl ?_
      refine WL_skip (gdN (b := false) 41 rfl rfl rfl) rfl ?_
      refine WL_val gd0 ((o_pickF (v := .bool false) rfl rfl rfl) _) rfl ?_
      refine WL_val gd0 ((o_move (v := .bool false) rfl) _) rfl ?_
      refine WL_skip (gdN (b := false) 46 rfl rfl rfl) rfl ?_
      refine WL_val gd0 ((o_pickF (v := .bool false) rfl rfl rfl) _) rfl ?_
      refine WL_val gd0 ((o_assign (v := .bool false) rfl) _) rfl ?_
      refine WL_nil ?_
      refine nrm ?_
      refine WC_ret ?_
      refine rtE ?_
      exact gv1 rfl rfl h

/-- spacecraft spacecraftlaw18.TmframeOnce -/
def F6 (b_a1 : Option Addr) (b_n2 : Nat) (b_c3 : Nat) (w4 : World) (k : Value → World → Prop) : Prop :=
  Does Try.prog 13 #[.slice b_a1 b_n2 b_c3] w4 (fun v w5 => ∃ (r6 r7 r8 r9 r10 : Int) (r_a11 : Option Addr) (r_n12 r_c13 : Nat) (r14 : Int) (r15 r16 r17 : Bool) (r18 r19 r20 : Int), v = .tuple #[.agg #[.int .i64 r6, .int .i64 r7, .int .i64 r8, .int .i64 r9, .int .i64 r10, .slice r_a11 r_n12 r_c13, .int .i64 r14, .bool r15, .bool r16, .bool r17, .int .i64 r18, .int .i64 r19], .int .i64 r20] ∧ New w5 26 [.int .i64 0, .int .i64 0, .int .i64 0, .int .i64 0, .int .i64 0, .slice none 0 0, .int .i64 0, .bool false, .bool false, .bool false, .int .i64 0, .int .i64 0] (fun p21 w22 => PutAll w22 p21 [.int .i64 r6, .int .i64 r7, .int .i64 r8, .int .i64 r9, .int .i64 r10, .slice r_a11 r_n12 r_c13, .int .i64 r14, .bool r15, .bool r16, .bool r17, .int .i64 r18, .int .i64 r19] (fun w23 => if r20 ≠ 0 then
  ∃ (x26 x27 x28 x29 x30 : Int) (x_a31 : Option Addr) (x_n32 x_c33 : Nat) (x34 : Int) (x35 x36 x37 : Bool) (x38 x39 : Int), Cells w23 p21 0 [.int .i64 x26, .int .i64 x27, .int .i64 x28, .int .i64 x29, .int .i64 x30, .slice x_a31 x_n32 x_c33, .int .i64 x34, .bool x35, .bool x36, .bool x37, .int .i64 x38, .int .i64 x39] ∧ Does Try.prog 15 #[.agg #[.int .i64 x26, .int .i64 x27, .int .i64 x28, .int .i64 x29, .int .i64 x30, .slice x_a31 x_n32 x_c33, .int .i64 x34, .bool x35, .bool x36, .bool x37, .int .i64 x38, .int .i64 x39], .agg #[.int .i64 0, .int .i64 0, .int .i64 0, .int .i64 0, .int .i64 0, .slice none 0 0, .int .i64 0, .bool false, .bool false, .bool false, .int .i64 0, .int .i64 0]] w23 (fun v w41 => ∃ (x42 : Bool), v = .bool x42 ∧ if x42 = true then
    Does Try.prog 8 #[] w41 (fun v w44 => ∃ (x45 : Bool), v = .bool x45 ∧ k (.bool x45) w44)
  else
    k (.bool false) w41)
else
  ∃ (x46 x47 x48 x49 x50 : Int) (x_a51 : Option Addr) (x_n52 x_c53 : Nat) (x54 : Int) (x55 x56 x57 : Bool) (x58 x59 : Int), Cells w23 p21 0 [.int .i64 x46, .int .i64 x47, .int .i64 x48, .int .i64 x49, .int .i64 x50, .slice x_a51 x_n52 x_c53, .int .i64 x54, .bool x55, .bool x56, .bool x57, .int .i64 x58, .int .i64 x59] ∧ Does Try.prog 9 #[.agg #[.int .i64 x46, .int .i64 x47, .int .i64 x48, .int .i64 x49, .int .i64 x50, .slice x_a51 x_n52 x_c53, .int .i64 x54, .bool x55, .bool x56, .bool x57, .int .i64 x58, .int .i64 x59]] w23 (fun v w61 => ∃ (r_a62 : Option Addr) (r_n63 r_c64 : Nat) (r65 : Int), v = .tuple #[.slice r_a62 r_n63 r_c64, .int .i64 r65] ∧ if r65 = 0 then
    ∃ (s67 : ByteArray), (Conv.bytesToString (.slice r_a62 r_n63 r_c64)).run Try.prog w61 = .ok (.string s67) w61 ∧ ∃ (s69 : ByteArray), (Conv.bytesToString (.slice b_a1 b_n2 b_c3)).run Try.prog w61 = .ok (.string s69) w61 ∧ if (s67.toList == s69.toList) = true then
      Does Try.prog 8 #[] w61 (fun v w72 => ∃ (x73 : Bool), v = .bool x73 ∧ k (.bool x73) w72)
    else
      k (.bool false) w61
  else
    k (.bool false) w61))))
set_option maxRecDepth 100000 in
set_option maxHeartbeats 2000000 in
theorem w6 (b_a1 : Option Addr) (b_n2 : Nat) (b_c3 : Nat) (w4 : World) (k : Value → World → Prop) (h : F6 b_a1 b_n2 b_c3 w4 k) : Does Try.prog 6 #[.slice b_a1 b_n2 b_c3] w4 k := by
  refine enter 37 Try.func6 rfl rfl rfl ?_
  intro ρ hρ
  have e0 := hρ 0 _ rfl
  unfold F6 at h
  refine WC_seq ?_
  refine WC_region ?_
  refine WL_val gd0 ((o_assign (v := .bool false) rfl) _) rfl ?_
  refine WL_nil ?_
  refine nrm ?_
  refine WC_seq ?_
  refine WC_region ?_
  refine WL_val gd0 ((o_move (v := .slice b_a1 b_n2 b_c3) (by exact e0)) _) rfl ?_
  refine WL_call gd0 (o_call Try.call13 (argCons rfl argNil) _) rfl (h.mono ?_)
  rintro _ w5 ⟨r6, r7, r8, r9, r10, r_a11, r_n12, r_c13, r14, r15, r16, r17, r18, r19, r20, rfl, h⟩
  refine WL_val gd0 ((o_move (v := .tuple #[.agg #[.int .i64 r6, .int .i64 r7, .int .i64 r8, .int .i64 r9, .int .i64 r10, .slice r_a11 r_n12 r_c13, .int .i64 r14, .bool r15, .bool r16, .bool r17, .int .i64 r18, .int .i64 r19], .int .i64 r20]) rfl) _) rfl ?_
  refine WL_val gd0 ((o_extract (vs := [.agg #[.int .i64 r6, .int .i64 r7, .int .i64 r8, .int .i64 r9, .int .i64 r10, .slice r_a11 r_n12 r_c13, .int .i64 r14, .bool r15, .bool r16, .bool r17, .int .i64 r18, .int .i64 r19], .int .i64 r20]) (r := .agg #[.int .i64 r6, .int .i64 r7, .int .i64 r8, .int .i64 r9, .int .i64 r10, .slice r_a11 r_n12 r_c13, .int .i64 r14, .bool r15, .bool r16, .bool r17, .int .i64 r18, .int .i64 r19]) rfl rfl) _) rfl ?_
  refine WL_val gd0 ((o_extract (vs := [.agg #[.int .i64 r6, .int .i64 r7, .int .i64 r8, .int .i64 r9, .int .i64 r10, .slice r_a11 r_n12 r_c13, .int .i64 r14, .bool r15, .bool r16, .bool r17, .int .i64 r18, .int .i64 r19], .int .i64 r20]) (r := .int .i64 r20) rfl rfl) _) rfl ?_
  have h := New.out h
  refine WL_val gd0 (o_alloc (z := .agg #[.int .i64 0, .int .i64 0, .int .i64 0, .int .i64 0, .int .i64 0, .slice none 0 0, .int .i64 0, .bool false, .bool false, .bool false, .int .i64 0, .int .i64 0]) (cs := [.int .i64 0, .int .i64 0, .int .i64 0, .int .i64 0, .int .i64 0, .slice none 0 0, .int .i64 0, .bool false, .bool false, .bool false, .int .i64 0, .int .i64 0]) Try.zeroValue26 rfl) rfl ?_
  generalize hp21 : fresh w5 = p21 at h ⊢
  generalize hw22 : push w5 26 [.int .i64 0, .int .i64 0, .int .i64 0, .int .i64 0, .int .i64 0, .slice none 0 0, .int .i64 0, .bool false, .bool false, .bool false, .int .i64 0, .int .i64 0] = w22 at h ⊢
  try dsimp only at h
  obtain ⟨c24, h⟩ := h
  refine WL_act gd0 (o_storeAgg (vs := [.int .i64 r6, .int .i64 r7, .int .i64 r8, .int .i64 r9, .int .i64 r10, .slice r_a11 r_n12 r_c13, .int .i64 r14, .bool r15, .bool r16, .bool r17, .int .i64 r18, .int .i64 r19]) Try.sizeOf26 rfl rfl rfl c24) ?_
  generalize hw23 : setAll w22 p21 0 [.int .i64 r6, .int .i64 r7, .int .i64 r8, .int .i64 r9, .int .i64 r10, .slice r_a11 r_n12 r_c13, .int .i64 r14, .bool r15, .bool r16, .bool r17, .int .i64 r18, .int .i64 r19] = w23 at h ⊢
  try dsimp only at h
  refine WL_val gd0 ((o_assign (v := .int .i64 r20) rfl) _) rfl ?_
  refine WL_nil ?_
  refine nrm ?_
  refine WC_seq ?_
  refine WC_seq ?_
  refine WC_region ?_
  refine WL_val gd0 ((o_move (v := .int .i64 r20) rfl) _) rfl ?_
  refine WL_val gd0 ((o_neq rfl rfl) _) rfl ?_
  refine WL_nil ?_
  refine nrm ?_
  refine WC_cond (t := (decide (r20 ≠ 0))) rfl (fun hb25 => ?_) (fun hb25 => ?_)
  · rw [if_pos (of_decide_eq_true hb25)] at h
    refine WC_seq ?_
    refine WC_region ?_
    obtain ⟨x26, x27, x28, x29, x30, x_a31, x_n32, x_c33, x34, x35, x36, x37, x38, x39, hc40, h⟩ := h
    refine WL_val gd0 (o_loadAgg (vs := [.int .i64 x26, .int .i64 x27, .int .i64 x28, .int .i64 x29, .int .i64 x30, .slice x_a31 x_n32 x_c33, .int .i64 x34, .bool x35, .bool x36, .bool x37, .int .i64 x38, .int .i64 x39]) Try.isAgg26 Try.sizeOf26 rfl hc40) rfl ?_
    refine WL_val gd0 ((o_build (ps := []) (v := .agg #[.int .i64 0, .int .i64 0, .int .i64 0, .int .i64 0, .int .i64 0, .slice none 0 0, .int .i64 0, .bool false, .bool false, .bool false, .int .i64 0, .int .i64 0]) partNil (fun w => by kernel_rfl)) _) rfl ?_
    refine WL_call gd0 (o_call Try.call15 (argCons rfl (argCons rfl argNil)) _) rfl (h.mono ?_)
    rintro _ w41 ⟨x42, rfl, h⟩
    refine WL_val gd0 ((o_move (v := .bool x42) rfl) _) rfl ?_
    refine bsplit x42 (fun hb43 => ?_) (fun hb43 => ?_)
    · rw [if_pos hb43] at h
      refine WL_call (gdY (b := x42) 17 rfl rfl hb43) (o_call Try.call8 argNil _) rfl (h.mono ?_)
      rintro _ w44 ⟨x45, rfl, h⟩
      refine WL_val gd0 ((o_pickT (v := .bool x45) rfl hb43 rfl) _) rfl ?_
      refine WL_val gd0 ((o_assign (v := .bool x45) rfl) _) rfl ?_
      refine WL_nil ?_
      refine nrm ?_
      refine WC_ret ?_
      refine rtT ?_
      refine rtE ?_
      exact gv1 rfl rfl h
    · rw [if_neg (neT hb43)] at h
      refine WL_skip (gdN (b := x42) 17 rfl rfl hb43) rfl ?_
      refine WL_val gd0 ((o_pickF (v := .bool false) rfl hb43 rfl) _) rfl ?_
      refine WL_val gd0 ((o_assign (v := .bool false) rfl) _) rfl ?_
      refine WL_nil ?_
      refine nrm ?_
      refine WC_ret ?_
      refine rtT ?_
      refine rtE ?_
      exact gv1 rfl rfl h
  · rw [if_neg (of_decide_eq_false hb25)] at h
    refine WC_skip ?_
    refine nrm ?_
    refine WC_seq ?_
    refine WC_region ?_
    obtain ⟨x46, x47, x48, x49, x50, x_a51, x_n52, x_c53, x54, x55, x56, x57, x58, x59, hc60, h⟩ := h
    refine WL_val gd0 (o_loadAgg (vs := [.int .i64 x46, .int .i64 x47, .int .i64 x48, .int .i64 x49, .int .i64 x50, .slice x_a51 x_n52 x_c53, .int .i64 x54, .bool x55, .bool x56, .bool x57, .int .i64 x58, .int .i64 x59]) Try.isAgg26 Try.sizeOf26 rfl hc60) rfl ?_
    refine WL_call gd0 (o_call Try.call9 (argCons rfl argNil) _) rfl (h.mono ?_)
    rintro _ w61 ⟨r_a62, r_n63, r_c64, r65, rfl, h⟩
    refine WL_val gd0 ((o_move (v := .tuple #[.slice r_a62 r_n63 r_c64, .int .i64 r65]) rfl) _) rfl ?_
    refine WL_val gd0 ((o_extract (vs := [.slice r_a62 r_n63 r_c64, .int .i64 r65]) (r := .slice r_a62 r_n63 r_c64) rfl rfl) _) rfl ?_
    refine WL_val gd0 ((o_extract (vs := [.slice r_a62 r_n63 r_c64, .int .i64 r65]) (r := .int .i64 r65) rfl rfl) _) rfl ?_
    refine WL_val gd0 ((o_assign (v := .slice r_a62 r_n63 r_c64) rfl) _) rfl ?_
    refine WL_val gd0 ((o_assign (v := .int .i64 r65) rfl) _) rfl ?_
    refine WL_nil ?_
    refine nrm ?_
    refine WC_seq ?_
    refine WC_region ?_
    refine WL_val gd0 ((o_move (v := .int .i64 r65) rfl) _) rfl ?_
    refine WL_val gd0 ((o_eql rfl rfl) _) rfl ?_
    refine WL_val gd0 ((o_move (v := .bool (decide (r65 = 0))) rfl) _) rfl ?_
    refine bsplit (decide (r65 = 0)) (fun hb66 => ?_) (fun hb66 => ?_)
    · rw [if_pos (of_decide_eq_true hb66)] at h
      refine WL_val (gdY (b := (decide (r65 = 0))) 27 rfl rfl hb66) ((o_move (v := .slice r_a62 r_n63 r_c64) rfl) _) rfl ?_
      obtain ⟨s67, r68, h⟩ := h
      refine WL_val (gdY (b := (decide (r65 = 0))) 27 rfl rfl hb66) (o_toStr Try.underlying22 Try.underlying5 Try.underlying9 rfl r68) rfl ?_
      refine WL_val (gdY (b := (decide (r65 = 0))) 27 rfl rfl hb66) ((o_move (v := .slice b_a1 b_n2 b_c3) (by exact e0)) _) rfl ?_
      obtain ⟨s69, r70, h⟩ := h
      refine WL_val (gdY (b := (decide (r65 = 0))) 27 rfl rfl hb66) (o_toStr Try.underlying22 Try.underlying5 Try.underlying9 rfl r70) rfl ?_
      refine WL_val (gdY (b := (decide (r65 = 0))) 27 rfl rfl hb66) ((o_eqlStr rfl rfl) _) rfl ?_
      refine WL_val gd0 ((o_pickT (v := .bool (s67.toList == s69.toList)) rfl hb66 rfl) _) rfl ?_
      refine WL_val gd0 ((o_move (v := .bool (s67.toList == s69.toList)) rfl) _) rfl ?_
      refine bsplit (s67.toList == s69.toList) (fun hb71 => ?_) (fun hb71 => ?_)
      · rw [if_pos hb71] at h
        refine WL_call (gdY (b := (s67.toList == s69.toList)) 34 rfl rfl hb71) (o_call Try.call8 argNil _) rfl (h.mono ?_)
        rintro _ w72 ⟨x73, rfl, h⟩
        refine WL_val gd0 ((o_pickT (v := .bool x73) rfl hb71 rfl) _) rfl ?_
        refine WL_val gd0 ((o_assign (v := .bool x73) rfl) _) rfl ?_
        refine WL_nil ?_
        refine nrm ?_
        refine WC_ret ?_
        refine rtE ?_
        exact gv1 rfl rfl h
      · rw [if_neg (neT hb71)] at h
        refine WL_skip (gdN (b := (s67.toList == s69.toList)) 34 rfl rfl hb71) rfl ?_
        refine WL_val gd0 ((o_pickF (v := .bool false) rfl hb71 rfl) _) rfl ?_
        refine WL_val gd0 ((o_assign (v := .bool false) rfl) _) rfl ?_
        refine WL_nil ?_
        refine nrm ?_
        refine WC_ret ?_
        refine rtE ?_
        exact gv1 rfl rfl h
    · rw [if_neg (of_decide_eq_false hb66)] at h
      refine WL_skip (gdN (b := (decide (r65 = 0))) 27 rfl rfl hb66) rfl ?_
      refine WL_skip (gdN (b := (decide (r65 = 0))) 27 rfl rfl hb66) rfl ?_
      refine WL_skip (gdN (b := (decide (r65 = 0))) 27 rfl rfl hb66) rfl ?_
      refine WL_skip (gdN (b := (decide (r65 = 0))) 27 rfl rfl hb66) rfl ?_
      refine WL_skip (gdN (b := (decide (r65 = 0))) 27 rfl rfl hb66) rfl ?_
      refine WL_val gd0 ((o_pickF (v := .bool false) rfl hb66 rfl) _) rfl ?_
      refine WL_val gd0 ((o_move (v := .bool false) rfl) _) rfl ?_
      refine WL_skip (gdN (b := false) 34 rfl rfl rfl) rfl ?_
      refine WL_val gd0 ((o_pickF (v := .bool false) rfl rfl rfl) _) rfl ?_
      refine WL_val gd0 ((o_assign (v := .bool false) rfl) _) rfl ?_
      refine WL_nil ?_
      refine nrm ?_
      refine WC_ret ?_
      refine rtE ?_
      exact gv1 rfl rfl h

def F7_j1 (r_n36 : Nat) (r_a35 : Option Addr) (r_c37 : Nat) (bit15 : Int) (t42 : Bool) (w43 : World) (k : Value → World → Prop) : Prop :=
  if t42 = true then
  Does Try.prog 8 #[] w43 (fun v w45 => ∃ (t46 : Bool), v = .bool t46 ∧ k (.bool t46) w45)
else
  ∃ (b_a47 : Option Addr) (b_n48 b_c49 : Nat) (w50 : World), (Instr.makeSlice 22 (.int .i64 0) (.int .i64 (r_n36 : Int))).run Try.prog w43 = .ok (.slice b_a47 b_n48 b_c49) w50 ∧ ∃ (b_a52 : Option Addr) (b_n53 b_c54 : Nat) (w55 : World), (Builtin.append_ #[22, 22] 22 #[.slice b_a47 b_n48 b_c49, .slice r_a35 r_n36 r_c37]).run Try.prog w50 = .ok (.slice b_a52 b_n53 b_c54) w55 ∧ ∃ (p59 : Addr), b_a52 = some p59 ∧ (0 : Int) ≤ IntKind.i64.wrap (Int.tdiv bit15 8) ∧ IntKind.i64.wrap (Int.tdiv bit15 8) < (b_n53 : Int) ∧ ∃ (x61 : Int), w55.cell? (p59.add ((IntKind.i64.wrap (Int.tdiv bit15 8)).toNat)) = some (.int .u8 x61) ∧ (0 : Int) ≤ IntKind.u64.wrap (Int.tmod bit15 8) ∧ (0 : Int) ≤ IntKind.i64.wrap (Int.tdiv bit15 8) ∧ IntKind.i64.wrap (Int.tdiv bit15 8) < (b_n53 : Int) ∧ Put w55 (p59.add ((IntKind.i64.wrap (Int.tdiv bit15 8)).toNat)) (.int .u8 (bxor .u8 x61 (shl .u8 1 (IntKind.u64.wrap (Int.tmod bit15 8))))) (fun w66 => Does Try.prog 13 #[.slice b_a52 b_n53 b_c54] w66 (fun v w68 => ∃ (r69 r70 r71 r72 r73 : Int) (r_a74 : Option Addr) (r_n75 r_c76 : Nat) (r77 : Int) (r78 r79 r80 : Bool) (r81 r82 r83 : Int), v = .tuple #[.agg #[.int .i64 r69, .int .i64 r70, .int .i64 r71, .int .i64 r72, .int .i64 r73, .slice r_a74 r_n75 r_c76, .int .i64 r77, .bool r78, .bool r79, .bool r80, .int .i64 r81, .int .i64 r82], .int .i64 r83] ∧ New w68 26 [.int .i64 0, .int .i64 0, .int .i64 0, .int .i64 0, .int .i64 0, .slice none 0 0, .int .i64 0, .bool false, .bool false, .bool false, .int .i64 0, .int .i64 0] (fun p84 w85 => PutAll w85 p84 [.int .i64 r69, .int .i64 r70, .int .i64 r71, .int .i64 r72, .int .i64 r73, .slice r_a74 r_n75 r_c76, .int .i64 r77, .bool r78, .bool r79, .bool r80, .int .i64 r81, .int .i64 r82] (fun w86 => if r83 = 5 then
    Does Try.prog 8 #[] w86 (fun v w89 => ∃ (x90 : Bool), v = .bool x90 ∧ k (.bool x90) w89)
  else
    k (.bool false) w86))))
/-- spacecraft spacecraftlaw18.TmframeDetects -/
def F7 (f1 : Int) (f2 : Int) (f3 : Int) (f4 : Int) (f5 : Int) (f_a6 : Option Addr) (f_n7 : Nat) (f_c8 : Nat) (f9 : Int) (f10 : Bool) (f11 : Bool) (f12 : Bool) (f13 : Int) (f14 : Int) (bit15 : Int) (w16 : World) (k : Value → World → Prop) : Prop :=
  New w16 26 [.int .i64 f1, .int .i64 f2, .int .i64 f3, .int .i64 f4, .int .i64 f5, .slice f_a6 f_n7 f_c8, .int .i64 f9, .bool f10, .bool f11, .bool f12, .int .i64 f13, .int .i64 f14] (fun p17 w18 => ∃ (x19 x20 x21 x22 x23 : Int) (x_a24 : Option Addr) (x_n25 x_c26 : Nat) (x27 : Int) (x28 x29 x30 : Bool) (x31 x32 : Int), Cells w18 p17 0 [.int .i64 x19, .int .i64 x20, .int .i64 x21, .int .i64 x22, .int .i64 x23, .slice x_a24 x_n25 x_c26, .int .i64 x27, .bool x28, .bool x29, .bool x30, .int .i64 x31, .int .i64 x32] ∧ Does Try.prog 9 #[.agg #[.int .i64 x19, .int .i64 x20, .int .i64 x21, .int .i64 x22, .int .i64 x23, .slice x_a24 x_n25 x_c26, .int .i64 x27, .bool x28, .bool x29, .bool x30, .int .i64 x31, .int .i64 x32]] w18 (fun v w34 => ∃ (r_a35 : Option Addr) (r_n36 r_c37 : Nat) (r38 : Int), v = .tuple #[.slice r_a35 r_n36 r_c37, .int .i64 r38] ∧ if r38 ≠ 0 then
  F7_j1 r_n36 r_a35 r_c37 bit15 true w34 k
else
  if bit15 < 0 then
    F7_j1 r_n36 r_a35 r_c37 bit15 true w34 k
  else
    F7_j1 r_n36 r_a35 r_c37 bit15 (decide ((IntKind.i64.wrap (8 * (r_n36 : Int))) ≤ bit15)) w34 k))
set_option maxRecDepth 100000 in
set_option maxHeartbeats 2000000 in
theorem w7 (f1 : Int) (f2 : Int) (f3 : Int) (f4 : Int) (f5 : Int) (f_a6 : Option Addr) (f_n7 : Nat) (f_c8 : Nat) (f9 : Int) (f10 : Bool) (f11 : Bool) (f12 : Bool) (f13 : Int) (f14 : Int) (bit15 : Int) (w16 : World) (k : Value → World → Prop) (h : F7 f1 f2 f3 f4 f5 f_a6 f_n7 f_c8 f9 f10 f11 f12 f13 f14 bit15 w16 k) : Does Try.prog 7 #[.agg #[.int .i64 f1, .int .i64 f2, .int .i64 f3, .int .i64 f4, .int .i64 f5, .slice f_a6 f_n7 f_c8, .int .i64 f9, .bool f10, .bool f11, .bool f12, .int .i64 f13, .int .i64 f14], .int .i64 bit15] w16 k := by
  refine enter 59 Try.func7 rfl rfl rfl ?_
  intro ρ hρ
  have e0 := hρ 0 _ rfl
  have e1 := hρ 1 _ rfl
  unfold F7 at h
  refine WC_seq ?_
  refine WC_region ?_
  have h := New.out h
  refine WL_val gd0 (o_box (v := .agg #[.int .i64 f1, .int .i64 f2, .int .i64 f3, .int .i64 f4, .int .i64 f5, .slice f_a6 f_n7 f_c8, .int .i64 f9, .bool f10, .bool f11, .bool f12, .int .i64 f13, .int .i64 f14]) (cs := [.int .i64 f1, .int .i64 f2, .int .i64 f3, .int .i64 f4, .int .i64 f5, .slice f_a6 f_n7 f_c8, .int .i64 f9, .bool f10, .bool f11, .bool f12, .int .i64 f13, .int .i64 f14]) (by exact e0) rfl) rfl ?_
  generalize hp17 : fresh w16 = p17 at h ⊢
  generalize hw18 : push w16 26 [.int .i64 f1, .int .i64 f2, .int .i64 f3, .int .i64 f4, .int .i64 f5, .slice f_a6 f_n7 f_c8, .int .i64 f9, .bool f10, .bool f11, .bool f12, .int .i64 f13, .int .i64 f14] = w18 at h ⊢
  try dsimp only at h
  refine WL_val gd0 ((o_assign (v := .bool false) rfl) _) rfl ?_
  refine WL_nil ?_
  refine nrm ?_
  refine WC_seq ?_
  refine WC_region ?_
  obtain ⟨x19, x20, x21, x22, x23, x_a24, x_n25, x_c26, x27, x28, x29, x30, x31, x32, hc33, h⟩ := h
  refine WL_val gd0 (o_loadAgg (vs := [.int .i64 x19, .int .i64 x20, .int .i64 x21, .int .i64 x22, .int .i64 x23, .slice x_a24 x_n25 x_c26, .int .i64 x27, .bool x28, .bool x29, .bool x30, .int .i64 x31, .int .i64 x32]) Try.isAgg26 Try.sizeOf26 rfl hc33) rfl ?_
  refine WL_call gd0 (o_call Try.call9 (argCons rfl argNil) _) rfl (h.mono ?_)
  rintro _ w34 ⟨r_a35, r_n36, r_c37, r38, rfl, h⟩
  refine WL_val gd0 ((o_move (v := .tuple #[.slice r_a35 r_n36 r_c37, .int .i64 r38]) rfl) _) rfl ?_
  refine WL_val gd0 ((o_extract (vs := [.slice r_a35 r_n36 r_c37, .int .i64 r38]) (r := .slice r_a35 r_n36 r_c37) rfl rfl) _) rfl ?_
  refine WL_val gd0 ((o_extract (vs := [.slice r_a35 r_n36 r_c37, .int .i64 r38]) (r := .int .i64 r38) rfl rfl) _) rfl ?_
  refine WL_val gd0 ((o_assign (v := .slice r_a35 r_n36 r_c37) rfl) _) rfl ?_
  refine WL_val gd0 ((o_assign (v := .int .i64 r38) rfl) _) rfl ?_
  refine WL_nil ?_
  refine nrm ?_
  refine WC_seq ?_
  refine WC_cut (fun ρ w' => ∃ (t42 : Bool), ρ 27 = .bool t42 ∧ ρ 1 = .int .i64 bit15 ∧ ρ 5 = .slice r_a35 r_n36 r_c37 ∧ F7_j1 r_n36 r_a35 r_c37 bit15 t42 w' k) ?_ ?_
  · refine WC_region ?_
    refine WL_val gd0 ((o_move (v := .int .i64 r38) rfl) _) rfl ?_
    refine WL_val gd0 ((o_neq rfl rfl) _) rfl ?_
    refine WL_val gd0 ((o_move (v := .bool (decide (r38 ≠ 0))) rfl) _) rfl ?_
    refine bsplit (decide (r38 ≠ 0)) (fun hb91 => ?_) (fun hb91 => ?_)
    · rw [if_pos (of_decide_eq_true hb91)] at h
      refine WL_skip (gdN (b := (decide (r38 ≠ 0))) 17 rfl rfl hb91) rfl ?_
      refine WL_skip (gdN (b := (decide (r38 ≠ 0))) 17 rfl rfl hb91) rfl ?_
      refine WL_val gd0 ((o_pickT (v := .bool true) rfl hb91 rfl) _) rfl ?_
      refine WL_val gd0 ((o_move (v := .bool true) rfl) _) rfl ?_
      refine WL_skip (gdN (b := true) 21 rfl rfl rfl) rfl ?_
      refine WL_skip (gdN (b := true) 21 rfl rfl rfl) rfl ?_
      refine WL_skip (gdN (b := true) 21 rfl rfl rfl) rfl ?_
      refine WL_skip (gdN (b := true) 21 rfl rfl rfl) rfl ?_
      refine WL_skip (gdN (b := true) 21 rfl rfl rfl) rfl ?_
      refine WL_val gd0 ((o_pickT (v := .bool true) rfl rfl rfl) _) rfl ?_
      refine WL_nil ?_
      refine nrm ?_
      exact ⟨_, rfl, e1, rfl, h⟩
    · rw [if_neg (of_decide_eq_false hb91)] at h
      refine WL_val (gdY (b := (decide (r38 ≠ 0))) 17 rfl rfl hb91) ((o_move (v := .int .i64 bit15) (by exact e1)) _) rfl ?_
      refine WL_val (gdY (b := (decide (r38 ≠ 0))) 17 rfl rfl hb91) ((o_lss rfl rfl) _) rfl ?_
      refine WL_val gd0 ((o_pickF (v := .bool (decide (bit15 < 0))) rfl hb91 rfl) _) rfl ?_
      refine WL_val gd0 ((o_move (v := .bool (decide (bit15 < 0))) rfl) _) rfl ?_
      refine bsplit (decide (bit15 < 0)) (fun hb92 => ?_) (fun hb92 => ?_)
      · rw [if_pos (of_decide_eq_true hb92)] at h
        refine WL_skip (gdN (b := (decide (bit15 < 0))) 21 rfl rfl hb92) rfl ?_
        refine WL_skip (gdN (b := (decide (bit15 < 0))) 21 rfl rfl hb92) rfl ?_
        refine WL_skip (gdN (b := (decide (bit15 < 0))) 21 rfl rfl hb92) rfl ?_
        refine WL_skip (gdN (b := (decide (bit15 < 0))) 21 rfl rfl hb92) rfl ?_
        refine WL_skip (gdN (b := (decide (bit15 < 0))) 21 rfl rfl hb92) rfl ?_
        refine WL_val gd0 ((o_pickT (v := .bool true) rfl hb92 rfl) _) rfl ?_
        refine WL_nil ?_
        refine nrm ?_
        exact ⟨_, rfl, e1, rfl, h⟩
      · rw [if_neg (of_decide_eq_false hb92)] at h
        refine WL_val (gdY (b := (decide (bit15 < 0))) 21 rfl rfl hb92) ((o_move (v := .int .i64 bit15) (by exact e1)) _) rfl ?_
        refine WL_val (gdY (b := (decide (bit15 < 0))) 21 rfl rfl hb92) ((o_move (v := .slice r_a35 r_n36 r_c37) rfl) _) rfl ?_
        refine WL_val (gdY (b := (decide (bit15 < 0))) 21 rfl rfl hb92) ((o_len Try.underlying22 rfl) _) rfl ?_
        refine WL_val (gdY (b := (decide (bit15 < 0))) 21 rfl rfl hb92) ((o_mul rfl rfl) _) rfl ?_
        refine WL_val (gdY (b := (decide (bit15 < 0))) 21 rfl rfl hb92) ((o_geq rfl rfl) _) rfl ?_
        refine WL_val gd0 ((o_pickF (v := .bool (decide ((IntKind.i64.wrap (8 * (r_n36 : Int))) ≤ bit15))) rfl hb92 rfl) _) rfl ?_
        refine WL_nil ?_
        refine nrm ?_
        exact ⟨_, rfl, e1, rfl, h⟩
  · rintro ρ w43 ⟨t42, e27_41, e1_39, e5_40, h⟩
    unfold F7_j1 at h
    refine WC_cond (t := t42) (by exact e27_41) (fun hb44 => ?_) (fun hb44 => ?_)
    · rw [if_pos hb44] at h
      refine WC_seq ?_
      refine WC_region ?_
      refine WL_call gd0 (o_call Try.call8 argNil _) rfl (h.mono ?_)
      rintro _ w45 ⟨t46, rfl, h⟩
      refine WL_val gd0 ((o_assign (v := .bool t46) rfl) _) rfl ?_
      refine WL_nil ?_
      refine nrm ?_
      refine WC_ret ?_
      refine rtT ?_
      refine rtE ?_
      exact gv1 rfl rfl h
    · rw [if_neg (neT hb44)] at h
      refine WC_skip ?_
      refine nrm ?_
      refine WC_seq ?_
      refine WC_region ?_
      refine WL_val gd0 ((o_move (v := .slice r_a35 r_n36 r_c37) (by exact e5_40)) _) rfl ?_
      refine WL_val gd0 ((o_len Try.underlying22 rfl) _) rfl ?_
      obtain ⟨b_a47, b_n48, b_c49, w50, r51, h⟩ := h
      refine WL_val gd0 (o_makeSlice rfl rfl r51) rfl ?_
      refine WL_val gd0 ((o_assign (v := .slice b_a47 b_n48 b_c49) rfl) _) rfl ?_
      refine WL_nil ?_
      refine nrm ?_
      refine WC_seq ?_
      refine WC_region ?_
      refine WL_val gd0 ((o_move (v := .slice b_a47 b_n48 b_c49) rfl) _) rfl ?_
      refine WL_val gd0 ((o_move (v := .slice r_a35 r_n36 r_c37) (by exact e5_40)) _) rfl ?_
      obtain ⟨b_a52, b_n53, b_c54, w55, r56, h⟩ := h
      refine WL_val gd0 (o_append rfl rfl r56) rfl ?_
      refine WL_val gd0 ((o_assign (v := .slice b_a52 b_n53 b_c54) rfl) _) rfl ?_
      refine WL_nil ?_
      refine nrm ?_
      refine WC_seq ?_
      refine WC_region ?_
      refine WL_val gd0 ((o_move (v := .slice b_a52 b_n53 b_c54) rfl) _) rfl ?_
      refine WL_val gd0 ((o_move (v := .int .i64 bit15) (by exact e1_39)) _) rfl ?_
      refine WL_val gd0 ((fun w => o_quo rfl rfl w (by decide)) _) rfl ?_
      refine WL_val gd0 ((o_move (v := .slice b_a52 b_n53 b_c54) rfl) _) rfl ?_
      refine WL_val gd0 ((o_move (v := .int .i64 bit15) (by exact e1_39)) _) rfl ?_
      refine WL_val gd0 ((fun w => o_quo rfl rfl w (by decide)) _) rfl ?_
      obtain ⟨p59, q60, h⟩ := h
      obtain ⟨l57, u58, h⟩ := h
      refine WL_val gd0 ((o_indexAddr1 Try.underlying22 Try.sizeOf5 (by exact (congrArg (fun z => Value.slice z b_n53 b_c54) q60)) rfl l57 u58) _) rfl ?_
      obtain ⟨x61, hc62, h⟩ := h
      refine WL_val gd0 (o_load Try.isAgg5 rfl hc62) rfl ?_
      refine WL_val gd0 ((o_move (v := .int .i64 bit15) (by exact e1_39)) _) rfl ?_
      refine WL_val gd0 ((fun w => o_rem rfl rfl w (by decide)) _) rfl ?_
      refine WL_val gd0 ((o_conv Try.underlying3 Try.underlying36 rfl) _) rfl ?_
      obtain ⟨c63, h⟩ := h
      refine WL_val gd0 ((o_shl rfl rfl c63) _) rfl ?_
      refine WL_val gd0 ((o_xor rfl rfl) _) rfl ?_
      obtain ⟨l64, u65, h⟩ := h
      refine WL_val gd0 ((o_indexAddr1 Try.underlying22 Try.sizeOf5 (by exact (congrArg (fun z => Value.slice z b_n53 b_c54) q60)) rfl l64 u65) _) rfl ?_
      obtain ⟨c67, h⟩ := h
      refine WL_act gd0 (o_store (v := .int .u8 (bxor .u8 x61 (shl .u8 1 (IntKind.u64.wrap (Int.tmod bit15 8))))) Try.sizeOf5 rfl rfl rfl c67) ?_
      generalize hw66 : World.setCell w55 (p59.add ((IntKind.i64.wrap (Int.tdiv bit15 8)).toNat)) (.int .u8 (bxor .u8 x61 (shl .u8 1 (IntKind.u64.wrap (Int.tmod bit15 8))))) = w66 at h ⊢
      try dsimp only at h
      refine WL_nil ?_
      refine nrm ?_
      refine WC_seq ?_
      refine WC_region ?_
      refine WL_val gd0 ((o_move (v := .slice b_a52 b_n53 b_c54) rfl) _) rfl ?_
      refine WL_call gd0 (o_call Try.call13 (argCons rfl argNil) _) rfl (h.mono ?_)
      rintro _ w68 ⟨r69, r70, r71, r72, r73, r_a74, r_n75, r_c76, r77, r78, r79, r80, r81, r82, r83, rfl, h⟩
      refine WL_val gd0 ((o_move (v := .tuple #[.agg #[.int .i64 r69, .int .i64 r70, .int .i64 r71, .int .i64 r72, .int .i64 r73, .slice r_a74 r_n75 r_c76, .int .i64 r77, .bool r78, .bool r79, .bool r80, .int .i64 r81, .int .i64 r82], .int .i64 r83]) rfl) _) rfl ?_
      refine WL_val gd0 ((o_extract (vs := [.agg #[.int .i64 r69, .int .i64 r70, .int .i64 r71, .int .i64 r72, .int .i64 r73, .slice r_a74 r_n75 r_c76, .int .i64 r77, .bool r78, .bool r79, .bool r80, .int .i64 r81, .int .i64 r82], .int .i64 r83]) (r := .agg #[.int .i64 r69, .int .i64 r70, .int .i64 r71, .int .i64 r72, .int .i64 r73, .slice r_a74 r_n75 r_c76, .int .i64 r77, .bool r78, .bool r79, .bool r80, .int .i64 r81, .int .i64 r82]) rfl rfl) _) rfl ?_
      refine WL_val gd0 ((o_extract (vs := [.agg #[.int .i64 r69, .int .i64 r70, .int .i64 r71, .int .i64 r72, .int .i64 r73, .slice r_a74 r_n75 r_c76, .int .i64 r77, .bool r78, .bool r79, .bool r80, .int .i64 r81, .int .i64 r82], .int .i64 r83]) (r := .int .i64 r83) rfl rfl) _) rfl ?_
      have h := New.out h
      refine WL_val gd0 (o_alloc (z := .agg #[.int .i64 0, .int .i64 0, .int .i64 0, .int .i64 0, .int .i64 0, .slice none 0 0, .int .i64 0, .bool false, .bool false, .bool false, .int .i64 0, .int .i64 0]) (cs := [.int .i64 0, .int .i64 0, .int .i64 0, .int .i64 0, .int .i64 0, .slice none 0 0, .int .i64 0, .bool false, .bool false, .bool false, .int .i64 0, .int .i64 0]) Try.zeroValue26 rfl) rfl ?_
      generalize hp84 : fresh w68 = p84 at h ⊢
      generalize hw85 : push w68 26 [.int .i64 0, .int .i64 0, .int .i64 0, .int .i64 0, .int .i64 0, .slice none 0 0, .int .i64 0, .bool false, .bool false, .bool false, .int .i64 0, .int .i64 0] = w85 at h ⊢
      try dsimp only at h
      obtain ⟨c87, h⟩ := h
      refine WL_act gd0 (o_storeAgg (vs := [.int .i64 r69, .int .i64 r70, .int .i64 r71, .int .i64 r72, .int .i64 r73, .slice r_a74 r_n75 r_c76, .int .i64 r77, .bool r78, .bool r79, .bool r80, .int .i64 r81, .int .i64 r82]) Try.sizeOf26 rfl rfl rfl c87) ?_
      generalize hw86 : setAll w85 p84 0 [.int .i64 r69, .int .i64 r70, .int .i64 r71, .int .i64 r72, .int .i64 r73, .slice r_a74 r_n75 r_c76, .int .i64 r77, .bool r78, .bool r79, .bool r80, .int .i64 r81, .int .i64 r82] = w86 at h ⊢
      try dsimp only at h
      refine WL_val gd0 ((o_assign (v := .int .i64 r83) rfl) _) rfl ?_
      refine WL_nil ?_
      refine nrm ?_
      refine WC_seq ?_
      refine WC_region ?_
      refine WL_val gd0 ((o_move (v := .int .i64 r83) rfl) _) rfl ?_
      refine WL_val gd0 ((o_eql rfl rfl) _) rfl ?_
      refine WL_val gd0 ((o_move (v := .bool (decide (r83 = 5))) rfl) _) rfl ?_
      refine bsplit (decide (r83 = 5)) (fun hb88 => ?_) (fun hb88 => ?_)
      · rw [if_pos (of_decide_eq_true hb88)] at h
        refine WL_call (gdY (b := (decide (r83 = 5))) 56 rfl rfl hb88) (o_call Try.call8 argNil _) rfl (h.mono ?_)
        rintro _ w89 ⟨x90, rfl, h⟩
        refine WL_val gd0 ((o_pickT (v := .bool x90) rfl hb88 rfl) _) rfl ?_
        refine WL_val gd0 ((o_assign (v := .bool x90) rfl) _) rfl ?_
        refine WL_nil ?_
        refine nrm ?_
        refine WC_ret ?_
        refine rtE ?_
        exact gv1 rfl rfl h
      · rw [if_neg (of_decide_eq_false hb88)] at h
        refine WL_skip (gdN (b := (decide (r83 = 5))) 56 rfl rfl hb88) rfl ?_
        refine WL_val gd0 ((o_pickF (v := .bool false) rfl hb88 rfl) _) rfl ?_
        refine WL_val gd0 ((o_assign (v := .bool false) rfl) _) rfl ?_
        refine WL_nil ?_
        refine nrm ?_
        refine WC_ret ?_
        refine rtE ?_
        exact gv1 rfl rfl h

/-- spacecraft spacecraftlaw18.lives -/
def F8 (w1 : World) (k : Value → World → Prop) : Prop :=
  New w1 5 [.int .u8 170] (fun p2 w3 => New w3 26 [.int .i64 0, .int .i64 0, .int .i64 0, .int .i64 0, .int .i64 0, .slice none 0 0, .int .i64 0, .bool false, .bool false, .bool false, .int .i64 0, .int .i64 0] (fun p4 w5 => PutAll w5 p4 [.int .i64 5, .int .i64 1, .int .i64 2, .int .i64 3, .int .i64 0, .slice (some p2) 1 1, .int .i64 0, .bool false, .bool false, .bool false, .int .i64 0, .int .i64 0] (fun w6 => ∃ (x8 x9 x10 x11 x12 : Int) (x_a13 : Option Addr) (x_n14 x_c15 : Nat) (x16 : Int) (x17 x18 x19 : Bool) (x20 x21 : Int), Cells w6 p4 0 [.int .i64 x8, .int .i64 x9, .int .i64 x10, .int .i64 x11, .int .i64 x12, .slice x_a13 x_n14 x_c15, .int .i64 x16, .bool x17, .bool x18, .bool x19, .int .i64 x20, .int .i64 x21] ∧ Does Try.prog 9 #[.agg #[.int .i64 x8, .int .i64 x9, .int .i64 x10, .int .i64 x11, .int .i64 x12, .slice x_a13 x_n14 x_c15, .int .i64 x16, .bool x17, .bool x18, .bool x19, .int .i64 x20, .int .i64 x21]] w6 (fun v w23 => ∃ (r_a24 : Option Addr) (r_n25 r_c26 : Nat) (r27 : Int), v = .tuple #[.slice r_a24 r_n25 r_c26, .int .i64 r27] ∧ if r27 ≠ 0 then
  k (.bool false) w23
else
  if (r_n25 : Int) ≠ 13 then
    k (.bool false) w23
  else
    Does Try.prog 13 #[.slice r_a24 r_n25 r_c26] w23 (fun v w30 => ∃ (r31 r32 r33 r34 r35 : Int) (r_a36 : Option Addr) (r_n37 r_c38 : Nat) (r39 : Int) (r40 r41 r42 : Bool) (r43 r44 r45 : Int), v = .tuple #[.agg #[.int .i64 r31, .int .i64 r32, .int .i64 r33, .int .i64 r34, .int .i64 r35, .slice r_a36 r_n37 r_c38, .int .i64 r39, .bool r40, .bool r41, .bool r42, .int .i64 r43, .int .i64 r44], .int .i64 r45] ∧ New w30 26 [.int .i64 0, .int .i64 0, .int .i64 0, .int .i64 0, .int .i64 0, .slice none 0 0, .int .i64 0, .bool false, .bool false, .bool false, .int .i64 0, .int .i64 0] (fun p46 w47 => PutAll w47 p46 [.int .i64 r31, .int .i64 r32, .int .i64 r33, .int .i64 r34, .int .i64 r35, .slice r_a36 r_n37 r_c38, .int .i64 r39, .bool r40, .bool r41, .bool r42, .int .i64 r43, .int .i64 r44] (fun w48 => (0 : Int) ≤ 12 ∧ 12 ≤ (r_c26 : Int) ∧ Does Try.prog 13 #[.slice r_a24 ((12 : Int).toNat) r_c26] w48 (fun v w52 => ∃ (r53 r54 r55 r56 r57 : Int) (r_a58 : Option Addr) (r_n59 r_c60 : Nat) (r61 : Int) (r62 r63 r64 : Bool) (r65 r66 r67 : Int), v = .tuple #[.agg #[.int .i64 r53, .int .i64 r54, .int .i64 r55, .int .i64 r56, .int .i64 r57, .slice r_a58 r_n59 r_c60, .int .i64 r61, .bool r62, .bool r63, .bool r64, .int .i64 r65, .int .i64 r66], .int .i64 r67] ∧ New w52 26 [.int .i64 0, .int .i64 0, .int .i64 0, .int .i64 0, .int .i64 0, .slice none 0 0, .int .i64 0, .bool false, .bool false, .bool false, .int .i64 0, .int .i64 0] (fun p68 w69 => PutAll w69 p68 [.int .i64 r53, .int .i64 r54, .int .i64 r55, .int .i64 r56, .int .i64 r57, .slice r_a58 r_n59 r_c60, .int .i64 r61, .bool r62, .bool r63, .bool r64, .int .i64 r65, .int .i64 r66] (fun w70 => Does Try.prog 9 #[.agg #[.int .i64 5, .int .i64 0, .int .i64 0, .int .i64 0, .int .i64 0, .slice none 0 0, .int .i64 0, .bool false, .bool false, .bool false, .int .i64 0, .int .i64 0]] w70 (fun v w72 => ∃ (r_a73 : Option Addr) (r_n74 r_c75 : Nat) (r76 : Int), v = .tuple #[.slice r_a73 r_n74 r_c75, .int .i64 r76] ∧ (0 : Int) ≤ 11 ∧ 11 ≤ (r_c26 : Int) ∧ ∃ (s79 : ByteArray), (Conv.bytesToString (.slice r_a24 ((11 : Int).toNat) r_c26)).run Try.prog w72 = .ok (.string s79) w72 ∧ if (s79.toList == (ByteArray.mk #[0, 83, 2, 3, 24, 0, 170, 1, 0, 0, 0]).toList) = true then
      if r45 = 0 then
        ∃ (x83 x84 x85 x86 x87 : Int) (x_a88 : Option Addr) (x_n89 x_c90 : Nat) (x91 : Int) (x92 x93 x94 : Bool) (x95 x96 : Int), Cells w72 p46 0 [.int .i64 x83, .int .i64 x84, .int .i64 x85, .int .i64 x86, .int .i64 x87, .slice x_a88 x_n89 x_c90, .int .i64 x91, .bool x92, .bool x93, .bool x94, .int .i64 x95, .int .i64 x96] ∧ ∃ (x98 x99 x100 x101 x102 : Int) (x_a103 : Option Addr) (x_n104 x_c105 : Nat) (x106 : Int) (x107 x108 x109 : Bool) (x110 x111 : Int), Cells w72 p4 0 [.int .i64 x98, .int .i64 x99, .int .i64 x100, .int .i64 x101, .int .i64 x102, .slice x_a103 x_n104 x_c105, .int .i64 x106, .bool x107, .bool x108, .bool x109, .int .i64 x110, .int .i64 x111] ∧ Does Try.prog 15 #[.agg #[.int .i64 x83, .int .i64 x84, .int .i64 x85, .int .i64 x86, .int .i64 x87, .slice x_a88 x_n89 x_c90, .int .i64 x91, .bool x92, .bool x93, .bool x94, .int .i64 x95, .int .i64 x96], .agg #[.int .i64 x98, .int .i64 x99, .int .i64 x100, .int .i64 x101, .int .i64 x102, .slice x_a103 x_n104 x_c105, .int .i64 x106, .bool x107, .bool x108, .bool x109, .int .i64 x110, .int .i64 x111]] w72 (fun v w113 => ∃ (x114 : Bool), v = .bool x114 ∧ if x114 = true then
          if r67 = 3 then
            if r76 = 1 then
              ∃ (x118 x119 x120 x121 x122 : Int) (x_a123 : Option Addr) (x_n124 x_c125 : Nat) (x126 : Int) (x127 x128 x129 : Bool) (x130 x131 : Int), Cells w113 p4 0 [.int .i64 x118, .int .i64 x119, .int .i64 x120, .int .i64 x121, .int .i64 x122, .slice x_a123 x_n124 x_c125, .int .i64 x126, .bool x127, .bool x128, .bool x129, .int .i64 x130, .int .i64 x131] ∧ Does Try.prog 11 #[.agg #[.int .i64 x118, .int .i64 x119, .int .i64 x120, .int .i64 x121, .int .i64 x122, .slice x_a123 x_n124 x_c125, .int .i64 x126, .bool x127, .bool x128, .bool x129, .int .i64 x130, .int .i64 x131]] w113 (fun v w133 => ∃ (x134 : Bool), v = .bool x134 ∧ k (.bool (if (if (if x134 = true then true else false) = true then true else false) = true then true else false)) w133)
            else
              k (.bool false) w113
          else
            k (.bool false) w113
        else
          k (.bool false) w113)
      else
        k (.bool false) w72
    else
      k (.bool false) w72)))))))))))
set_option maxRecDepth 100000 in
set_option maxHeartbeats 2000000 in
theorem w8 (w1 : World) (k : Value → World → Prop) (h : F8 w1 k) : Does Try.prog 8 #[] w1 k := by
  refine enter 71 Try.func8 rfl rfl rfl ?_
  intro ρ hρ
  unfold F8 at h
  refine WC_seq ?_
  refine WC_region ?_
  refine WL_val gd0 ((o_assign (v := .bool false) rfl) _) rfl ?_
  refine WL_nil ?_
  refine nrm ?_
  refine WC_seq ?_
  refine WC_region ?_
  have h := New.out h
  refine WL_val gd0 (o_buildSlice (e := 5) (ps := [(0, .int .u8 170)]) (cs := [.int .u8 170]) (partCons rfl partNil) (fun w => by kernel_rfl)) rfl ?_
  generalize hp2 : fresh w1 = p2 at h ⊢
  generalize hw3 : push w1 5 [.int .u8 170] = w3 at h ⊢
  try dsimp only at h
  refine WL_val gd0 ((o_build (ps := [(0, .int .i64 5), (1, .int .i64 1), (2, .int .i64 2), (3, .int .i64 3), (5, .slice (some p2) 1 1)]) (v := .agg #[.int .i64 5, .int .i64 1, .int .i64 2, .int .i64 3, .int .i64 0, .slice (some p2) 1 1, .int .i64 0, .bool false, .bool false, .bool false, .int .i64 0, .int .i64 0]) (partCons rfl (partCons rfl (partCons rfl (partCons rfl (partCons rfl partNil))))) (fun w => by kernel_rfl)) _) rfl ?_
  have h := New.out h
  refine WL_val gd0 (o_alloc (z := .agg #[.int .i64 0, .int .i64 0, .int .i64 0, .int .i64 0, .int .i64 0, .slice none 0 0, .int .i64 0, .bool false, .bool false, .bool false, .int .i64 0, .int .i64 0]) (cs := [.int .i64 0, .int .i64 0, .int .i64 0, .int .i64 0, .int .i64 0, .slice none 0 0, .int .i64 0, .bool false, .bool false, .bool false, .int .i64 0, .int .i64 0]) Try.zeroValue26 rfl) rfl ?_
  generalize hp4 : fresh w3 = p4 at h ⊢
  generalize hw5 : push w3 26 [.int .i64 0, .int .i64 0, .int .i64 0, .int .i64 0, .int .i64 0, .slice none 0 0, .int .i64 0, .bool false, .bool false, .bool false, .int .i64 0, .int .i64 0] = w5 at h ⊢
  try dsimp only at h
  obtain ⟨c7, h⟩ := h
  refine WL_act gd0 (o_storeAgg (vs := [.int .i64 5, .int .i64 1, .int .i64 2, .int .i64 3, .int .i64 0, .slice (some p2) 1 1, .int .i64 0, .bool false, .bool false, .bool false, .int .i64 0, .int .i64 0]) Try.sizeOf26 rfl rfl rfl c7) ?_
  generalize hw6 : setAll w5 p4 0 [.int .i64 5, .int .i64 1, .int .i64 2, .int .i64 3, .int .i64 0, .slice (some p2) 1 1, .int .i64 0, .bool false, .bool false, .bool false, .int .i64 0, .int .i64 0] = w6 at h ⊢
  try dsimp only at h
  refine WL_nil ?_
  refine nrm ?_
  refine WC_seq ?_
  refine WC_region ?_
  obtain ⟨x8, x9, x10, x11, x12, x_a13, x_n14, x_c15, x16, x17, x18, x19, x20, x21, hc22, h⟩ := h
  refine WL_val gd0 (o_loadAgg (vs := [.int .i64 x8, .int .i64 x9, .int .i64 x10, .int .i64 x11, .int .i64 x12, .slice x_a13 x_n14 x_c15, .int .i64 x16, .bool x17, .bool x18, .bool x19, .int .i64 x20, .int .i64 x21]) Try.isAgg26 Try.sizeOf26 rfl hc22) rfl ?_
  refine WL_call gd0 (o_call Try.call9 (argCons rfl argNil) _) rfl (h.mono ?_)
  rintro _ w23 ⟨r_a24, r_n25, r_c26, r27, rfl, h⟩
  refine WL_val gd0 ((o_move (v := .tuple #[.slice r_a24 r_n25 r_c26, .int .i64 r27]) rfl) _) rfl ?_
  refine WL_val gd0 ((o_extract (vs := [.slice r_a24 r_n25 r_c26, .int .i64 r27]) (r := .slice r_a24 r_n25 r_c26) rfl rfl) _) rfl ?_
  refine WL_val gd0 ((o_extract (vs := [.slice r_a24 r_n25 r_c26, .int .i64 r27]) (r := .int .i64 r27) rfl rfl) _) rfl ?_
  refine WL_val gd0 ((o_assign (v := .slice r_a24 r_n25 r_c26) rfl) _) rfl ?_
  refine WL_val gd0 ((o_assign (v := .int .i64 r27) rfl) _) rfl ?_
  refine WL_nil ?_
  refine nrm ?_
  refine WC_seq ?_
  refine WC_seq ?_
  refine WC_region ?_
  refine WL_val gd0 ((o_move (v := .int .i64 r27) rfl) _) rfl ?_
  refine WL_val gd0 ((o_neq rfl rfl) _) rfl ?_
  refine WL_val gd0 ((o_move (v := .bool (decide (r27 ≠ 0))) rfl) _) rfl ?_
  refine bsplit (decide (r27 ≠ 0)) (fun hb28 => ?_) (fun hb28 => ?_)
  · rw [if_pos (of_decide_eq_true hb28)] at h
    refine WL_skip (gdN (b := (decide (r27 ≠ 0))) 19 rfl rfl hb28) rfl ?_
    refine WL_skip (gdN (b := (decide (r27 ≠ 0))) 19 rfl rfl hb28) rfl ?_
    refine WL_skip (gdN (b := (decide (r27 ≠ 0))) 19 rfl rfl hb28) rfl ?_
    refine WL_val gd0 ((o_pickT (v := .bool true) rfl hb28 rfl) _) rfl ?_
    refine WL_nil ?_
    refine nrm ?_
    refine WC_cond (t := true) rfl (fun _ => ?_) (fun hx => by rw [(rfl : true = true)] at hx; cases hx)
    refine WC_seq ?_
    refine WC_region ?_
    refine WL_val gd0 ((o_assign (v := .bool false) rfl) _) rfl ?_
    refine WL_nil ?_
    refine nrm ?_
    refine WC_ret ?_
    refine rtT ?_
    refine rtE ?_
    exact gv1 rfl rfl h
  · rw [if_neg (of_decide_eq_false hb28)] at h
    refine WL_val (gdY (b := (decide (r27 ≠ 0))) 19 rfl rfl hb28) ((o_move (v := .slice r_a24 r_n25 r_c26) rfl) _) rfl ?_
    refine WL_val (gdY (b := (decide (r27 ≠ 0))) 19 rfl rfl hb28) ((o_len Try.underlying22 rfl) _) rfl ?_
    refine WL_val (gdY (b := (decide (r27 ≠ 0))) 19 rfl rfl hb28) ((o_neq rfl rfl) _) rfl ?_
    refine WL_val gd0 ((o_pickF (v := .bool (decide ((r_n25 : Int) ≠ 13))) rfl hb28 rfl) _) rfl ?_
    refine WL_nil ?_
    refine nrm ?_
    refine WC_cond (t := (decide ((r_n25 : Int) ≠ 13))) rfl (fun hb29 => ?_) (fun hb29 => ?_)
    · rw [if_pos (of_decide_eq_true hb29)] at h
      refine WC_seq ?_
      refine WC_region ?_
      refine WL_val gd0 ((o_assign (v := .bool false) rfl) _) rfl ?_
      refine WL_nil ?_
      refine nrm ?_
      refine WC_ret ?_
      refine rtT ?_
      refine rtE ?_
      exact gv1 rfl rfl h
    · rw [if_neg (of_decide_eq_false hb29)] at h
      refine WC_skip ?_
      refine nrm ?_
      refine WC_seq ?_
      refine WC_region ?_
      refine WL_val gd0 ((o_move (v := .slice r_a24 r_n25 r_c26) rfl) _) rfl ?_
      refine WL_call gd0 (o_call Try.call13 (argCons rfl argNil) _) rfl (h.mono ?_)
      rintro _ w30 ⟨r31, r32, r33, r34, r35, r_a36, r_n37, r_c38, r39, r40, r41, r42, r43, r44, r45, rfl, h⟩
      refine WL_val gd0 ((o_move (v := .tuple #[.agg #[.int .i64 r31, .int .i64 r32, .int .i64 r33, .int .i64 r34, .int .i64 r35, .slice r_a36 r_n37 r_c38, .int .i64 r39, .bool r40, .bool r41, .bool r42, .int .i64 r43, .int .i64 r44], .int .i64 r45]) rfl) _) rfl ?_
      refine WL_val gd0 ((o_extract (vs := [.agg #[.int .i64 r31, .int .i64 r32, .int .i64 r33, .int .i64 r34, .int .i64 r35, .slice r_a36 r_n37 r_c38, .int .i64 r39, .bool r40, .bool r41, .bool r42, .int .i64 r43, .int .i64 r44], .int .i64 r45]) (r := .agg #[.int .i64 r31, .int .i64 r32, .int .i64 r33, .int .i64 r34, .int .i64 r35, .slice r_a36 r_n37 r_c38, .int .i64 r39, .bool r40, .bool r41, .bool r42, .int .i64 r43, .int .i64 r44]) rfl rfl) _) rfl ?_
      refine WL_val gd0 ((o_extract (vs := [.agg #[.int .i64 r31, .int .i64 r32, .int .i64 r33, .int .i64 r34, .int .i64 r35, .slice r_a36 r_n37 r_c38, .int .i64 r39, .bool r40, .bool r41, .bool r42, .int .i64 r43, .int .i64 r44], .int .i64 r45]) (r := .int .i64 r45) rfl rfl) _) rfl ?_
      have h := New.out h
      refine WL_val gd0 (o_alloc (z := .agg #[.int .i64 0, .int .i64 0, .int .i64 0, .int .i64 0, .int .i64 0, .slice none 0 0, .int .i64 0, .bool false, .bool false, .bool false, .int .i64 0, .int .i64 0]) (cs := [.int .i64 0, .int .i64 0, .int .i64 0, .int .i64 0, .int .i64 0, .slice none 0 0, .int .i64 0, .bool false, .bool false, .bool false, .int .i64 0, .int .i64 0]) Try.zeroValue26 rfl) rfl ?_
      generalize hp46 : fresh w30 = p46 at h ⊢
      generalize hw47 : push w30 26 [.int .i64 0, .int .i64 0, .int .i64 0, .int .i64 0, .int .i64 0, .slice none 0 0, .int .i64 0, .bool false, .bool false, .bool false, .int .i64 0, .int .i64 0] = w47 at h ⊢
      try dsimp only at h
      obtain ⟨c49, h⟩ := h
      refine WL_act gd0 (o_storeAgg (vs := [.int .i64 r31, .int .i64 r32, .int .i64 r33, .int .i64 r34, .int .i64 r35, .slice r_a36 r_n37 r_c38, .int .i64 r39, .bool r40, .bool r41, .bool r42, .int .i64 r43, .int .i64 r44]) Try.sizeOf26 rfl rfl rfl c49) ?_
      generalize hw48 : setAll w47 p46 0 [.int .i64 r31, .int .i64 r32, .int .i64 r33, .int .i64 r34, .int .i64 r35, .slice r_a36 r_n37 r_c38, .int .i64 r39, .bool r40, .bool r41, .bool r42, .int .i64 r43, .int .i64 r44] = w48 at h ⊢
      try dsimp only at h
      refine WL_val gd0 ((o_assign (v := .int .i64 r45) rfl) _) rfl ?_
      refine WL_nil ?_
      refine nrm ?_
      refine WC_seq ?_
      refine WC_region ?_
      refine WL_val gd0 ((o_move (v := .slice r_a24 r_n25 r_c26) rfl) _) rfl ?_
      obtain ⟨c50, c51, h⟩ := h
      refine WL_val gd0 ((o_sliceH Try.underlying22 Try.sizeOf5 rfl rfl c50 c51) _) rfl ?_
      refine WL_call gd0 (o_call Try.call13 (argCons rfl argNil) _) rfl (h.mono ?_)
      rintro _ w52 ⟨r53, r54, r55, r56, r57, r_a58, r_n59, r_c60, r61, r62, r63, r64, r65, r66, r67, rfl, h⟩
      refine WL_val gd0 ((o_move (v := .tuple #[.agg #[.int .i64 r53, .int .i64 r54, .int .i64 r55, .int .i64 r56, .int .i64 r57, .slice r_a58 r_n59 r_c60, .int .i64 r61, .bool r62, .bool r63, .bool r64, .int .i64 r65, .int .i64 r66], .int .i64 r67]) rfl) _) rfl ?_
      refine WL_val gd0 ((o_extract (vs := [.agg #[.int .i64 r53, .int .i64 r54, .int .i64 r55, .int .i64 r56, .int .i64 r57, .slice r_a58 r_n59 r_c60, .int .i64 r61, .bool r62, .bool r63, .bool r64, .int .i64 r65, .int .i64 r66], .int .i64 r67]) (r := .agg #[.int .i64 r53, .int .i64 r54, .int .i64 r55, .int .i64 r56, .int .i64 r57, .slice r_a58 r_n59 r_c60, .int .i64 r61, .bool r62, .bool r63, .bool r64, .int .i64 r65, .int .i64 r66]) rfl rfl) _) rfl ?_
      refine WL_val gd0 ((o_extract (vs := [.agg #[.int .i64 r53, .int .i64 r54, .int .i64 r55, .int .i64 r56, .int .i64 r57, .slice r_a58 r_n59 r_c60, .int .i64 r61, .bool r62, .bool r63, .bool r64, .int .i64 r65, .int .i64 r66], .int .i64 r67]) (r := .int .i64 r67) rfl rfl) _) rfl ?_
      have h := New.out h
      refine WL_val gd0 (o_alloc (z := .agg #[.int .i64 0, .int .i64 0, .int .i64 0, .int .i64 0, .int .i64 0, .slice none 0 0, .int .i64 0, .bool false, .bool false, .bool false, .int .i64 0, .int .i64 0]) (cs := [.int .i64 0, .int .i64 0, .int .i64 0, .int .i64 0, .int .i64 0, .slice none 0 0, .int .i64 0, .bool false, .bool false, .bool false, .int .i64 0, .int .i64 0]) Try.zeroValue26 rfl) rfl ?_
      generalize hp68 : fresh w52 = p68 at h ⊢
      generalize hw69 : push w52 26 [.int .i64 0, .int .i64 0, .int .i64 0, .int .i64 0, .int .i64 0, .slice none 0 0, .int .i64 0, .bool false, .bool false, .bool false, .int .i64 0, .int .i64 0] = w69 at h ⊢
      try dsimp only at h
      obtain ⟨c71, h⟩ := h
      refine WL_act gd0 (o_storeAgg (vs := [.int .i64 r53, .int .i64 r54, .int .i64 r55, .int .i64 r56, .int .i64 r57, .slice r_a58 r_n59 r_c60, .int .i64 r61, .bool r62, .bool r63, .bool r64, .int .i64 r65, .int .i64 r66]) Try.sizeOf26 rfl rfl rfl c71) ?_
      generalize hw70 : setAll w69 p68 0 [.int .i64 r53, .int .i64 r54, .int .i64 r55, .int .i64 r56, .int .i64 r57, .slice r_a58 r_n59 r_c60, .int .i64 r61, .bool r62, .bool r63, .bool r64, .int .i64 r65, .int .i64 r66] = w70 at h ⊢
      try dsimp only at h
      refine WL_val gd0 ((o_assign (v := .int .i64 r67) rfl) _) rfl ?_
      refine WL_nil ?_
      refine nrm ?_
      refine WC_seq ?_
      refine WC_region ?_
      refine WL_val gd0 ((o_build (ps := [(0, .int .i64 5)]) (v := .agg #[.int .i64 5, .int .i64 0, .int .i64 0, .int .i64 0, .int .i64 0, .slice none 0 0, .int .i64 0, .bool false, .bool false, .bool false, .int .i64 0, .int .i64 0]) (partCons rfl partNil) (fun w => by kernel_rfl)) _) rfl ?_
      refine WL_call gd0 (o_call Try.call9 (argCons rfl argNil) _) rfl (h.mono ?_)
      rintro _ w72 ⟨r_a73, r_n74, r_c75, r76, rfl, h⟩
      refine WL_val gd0 ((o_move (v := .tuple #[.slice r_a73 r_n74 r_c75, .int .i64 r76]) rfl) _) rfl ?_
      refine WL_val gd0 ((o_extract (vs := [.slice r_a73 r_n74 r_c75, .int .i64 r76]) (r := .slice r_a73 r_n74 r_c75) rfl rfl) _) rfl ?_
      refine WL_val gd0 ((o_extract (vs := [.slice r_a73 r_n74 r_c75, .int .i64 r76]) (r := .int .i64 r76) rfl rfl) _) rfl ?_
      refine WL_val gd0 ((o_assign (v := .slice r_a73 r_n74 r_c75) rfl) _) rfl ?_
      refine WL_val gd0 ((o_assign (v := .int .i64 r76) rfl) _) rfl ?_
      refine WL_nil ?_
      refine nrm ?_
      refine WC_seq ?_
      refine WC_region ?_
      refine WL_val gd0 ((o_move (v := .slice r_a24 r_n25 r_c26) rfl) _) rfl ?_
      obtain ⟨c77, c78, h⟩ := h
      refine WL_val gd0 ((o_sliceH Try.underlying22 Try.sizeOf5 rfl rfl c77 c78) _) rfl ?_
      obtain ⟨s79, r80, h⟩ := h
      refine WL_val gd0 (o_toStr Try.underlying22 Try.underlying5 Try.underlying9 rfl r80) rfl ?_
      refine WL_val gd0 ((o_eqlStr rfl rfl) _) rfl ?_
      refine WL_val gd0 ((o_move (v := .bool (s79.toList == (ByteArray.mk #[0, 83, 2, 3, 24, 0, 170, 1, 0, 0, 0]).toList)) rfl) _) rfl ?_
      refine bsplit (s79.toList == (ByteArray.mk #[0, 83, 2, 3, 24, 0, 170, 1, 0, 0, 0]).toList) (fun hb81 => ?_) (fun hb81 => ?_)
      · rw [if_pos hb81] at h
        refine WL_val (gdY (b := (s79.toList == (ByteArray.mk #[0, 83, 2, 3, 24, 0, 170, 1, 0, 0, 0]).toList)) 44 rfl rfl hb81) ((o_move (v := .int .i64 r45) rfl) _) rfl ?_
        refine WL_val (gdY (b := (s79.toList == (ByteArray.mk #[0, 83, 2, 3, 24, 0, 170, 1, 0, 0, 0]).toList)) 44 rfl rfl hb81) ((o_eql rfl rfl) _) rfl ?_
        refine WL_val gd0 ((o_pickT (v := .bool (decide (r45 = 0))) rfl hb81 rfl) _) rfl ?_
        refine WL_val gd0 ((o_move (v := .bool (decide (r45 = 0))) rfl) _) rfl ?_
        refine bsplit (decide (r45 = 0)) (fun hb82 => ?_) (fun hb82 => ?_)
        · rw [if_pos (of_decide_eq_true hb82)] at h
          obtain ⟨x83, x84, x85, x86, x87, x_a88, x_n89, x_c90, x91, x92, x93, x94, x95, x96, hc97, h⟩ := h
          refine WL_val (gdY (b := (decide (r45 = 0))) 48 rfl rfl hb82) (o_loadAgg (vs := [.int .i64 x83, .int .i64 x84, .int .i64 x85, .int .i64 x86, .int .i64 x87, .slice x_a88 x_n89 x_c90, .int .i64 x91, .bool x92, .bool x93, .bool x94, .int .i64 x95, .int .i64 x96]) Try.isAgg26 Try.sizeOf26 rfl hc97) rfl ?_
          obtain ⟨x98, x99, x100, x101, x102, x_a103, x_n104, x_c105, x106, x107, x108, x109, x110, x111, hc112, h⟩ := h
          refine WL_val (gdY (b := (decide (r45 = 0))) 48 rfl rfl hb82) (o_loadAgg (vs := [.int .i64 x98, .int .i64 x99, .int .i64 x100, .int .i64 x101, .int .i64 x102, .slice x_a103 x_n104 x_c105, .int .i64 x106, .bool x107, .bool x108, .bool x109, .int .i64 x110, .int .i64 x111]) Try.isAgg26 Try.sizeOf26 rfl hc112) rfl ?_
          refine WL_call (gdY (b := (decide (r45 = 0))) 48 rfl rfl hb82) (o_call Try.call15 (argCons rfl (argCons rfl argNil)) _) rfl (h.mono ?_)
          rintro _ w113 ⟨x114, rfl, h⟩
          refine WL_val gd0 ((o_pickT (v := .bool x114) rfl hb82 rfl) _) rfl ?_
          refine WL_val gd0 ((o_move (v := .bool x114) rfl) _) rfl ?_
          refine bsplit x114 (fun hb115 => ?_) (fun hb115 => ?_)
          · rw [if_pos hb115] at h
            refine WL_val (gdY (b := x114) 53 rfl rfl hb115) ((o_move (v := .int .i64 r67) rfl) _) rfl ?_
            refine WL_val (gdY (b := x114) 53 rfl rfl hb115) ((o_eql rfl rfl) _) rfl ?_
            refine WL_val gd0 ((o_pickT (v := .bool (decide (r67 = 3))) rfl hb115 rfl) _) rfl ?_
            refine WL_val gd0 ((o_move (v := .bool (decide (r67 = 3))) rfl) _) rfl ?_
            refine bsplit (decide (r67 = 3)) (fun hb116 => ?_) (fun hb116 => ?_)
            · rw [if_pos (of_decide_eq_true hb116)] at h
              refine WL_val (gdY (b := (decide (r67 = 3))) 57 rfl rfl hb116) ((o_move (v := .int .i64 r76) rfl) _) rfl ?_
              refine WL_val (gdY (b := (decide (r67 = 3))) 57 rfl rfl hb116) ((o_eql rfl rfl) _) rfl ?_
              refine WL_val gd0 ((o_pickT (v := .bool (decide (r76 = 1))) rfl hb116 rfl) _) rfl ?_
              refine WL_val gd0 ((o_move (v := .bool (decide (r76 = 1))) rfl) _) rfl ?_
              refine bsplit (decide (r76 = 1)) (fun hb117 => ?_) (fun hb117 => ?_)
              · rw [if_pos (of_decide_eq_true hb117)] at h
                obtain ⟨x118, x119, x120, x121, x122, x_a123, x_n124, x_c125, x126, x127, x128, x129, x130, x131, hc132, h⟩ := h
                refine WL_val (gdY (b := (decide (r76 = 1))) 61 rfl rfl hb117) (o_loadAgg (vs := [.int .i64 x118, .int .i64 x119, .int .i64 x120, .int .i64 x121, .int .i64 x122, .slice x_a123 x_n124 x_c125, .int .i64 x126, .bool x127, .bool x128, .bool x129, .int .i64 x130, .int .i64 x131]) Try.isAgg26 Try.sizeOf26 rfl hc132) rfl ?_
                refine WL_call (gdY (b := (decide (r76 = 1))) 61 rfl rfl hb117) (o_call Try.call11 (argCons rfl argNil) _) rfl (h.mono ?_)
                rintro _ w133 ⟨x134, rfl, h⟩
                refine WL_val gd0 ((o_pickT (v := .bool x134) rfl hb117 rfl) _) rfl ?_
                refine WL_val gd0 ((o_move (v := .bool x134) rfl) _) rfl ?_
                refine WL_val gd0 ((o_pickB rfl rfl rfl) _) rfl ?_
                refine WL_val gd0 ((o_move (v := .bool (if x134 = true then true else false)) rfl) _) rfl ?_
                refine WL_val gd0 ((o_pickB rfl rfl rfl) _) rfl ?_
                refine WL_val gd0 ((o_move (v := .bool (if (if x134 = true then true else false) = true then true else false)) rfl) _) rfl ?_
                refine WL_val gd0 ((o_pickB rfl rfl rfl) _) rfl ?_
                refine WL_val gd0 ((o_assign (v := .bool (if (if (if x134 = true then true else false) = true then true else false) = true then true else false)) rfl) _) rfl ?_
                refine WL_nil ?_
                refine nrm ?_
                refine WC_ret ?_
                refine rtE ?_
                exact gv1 rfl rfl h
              · rw [if_neg (of_decide_eq_false hb117)] at h
                refine WL_skip (gdN (b := (decide (r76 = 1))) 61 rfl rfl hb117) rfl ?_
                refine WL_skip (gdN (b := (decide (r76 = 1))) 61 rfl rfl hb117) rfl ?_
                refine WL_val gd0 ((o_pickF (v := .bool false) rfl hb117 rfl) _) rfl ?_
                refine WL_val gd0 ((o_move (v := .bool false) rfl) _) rfl ?_
                refine WL_val gd0 ((o_pickF (v := .bool false) rfl rfl rfl) _) rfl ?_
                refine WL_val gd0 ((o_move (v := .bool false) rfl) _) rfl ?_
                refine WL_val gd0 ((o_pickF (v := .bool false) rfl rfl rfl) _) rfl ?_
                refine WL_val gd0 ((o_move (v := .bool false) rfl) _) rfl ?_
                refine WL_val gd0 ((o_pickF (v := .bool false) rfl rfl rfl) _) rfl ?_
                refine WL_val gd0 ((o_assign (v := .bool false) rfl) _) rfl ?_
                refine WL_nil ?_
                refine nrm ?_
                refine WC_ret ?_
                refine rtE ?_
                exact gv1 rfl rfl h
            · rw [if_neg (of_decide_eq_false hb116)] at h
              refine WL_skip (gdN (b := (decide (r67 = 3))) 57 rfl rfl hb116) rfl ?_
              refine WL_skip (gdN (b := (decide (r67 = 3))) 57 rfl rfl hb116) rfl ?_
              refine WL_val gd0 ((o_pickF (v := .bool false) rfl hb116 rfl) _) rfl ?_
              refine WL_val gd0 ((o_move (v := .bool false) rfl) _) rfl ?_
              refine WL_skip (gdN (b := false) 61 rfl rfl rfl) rfl ?_
              refine WL_skip (gdN (b := false) 61 rfl rfl rfl) rfl ?_
              refine WL_val gd0 ((o_pickF (v := .bool false) rfl rfl rfl) _) rfl ?_
              refine WL_val gd0 ((o_move (v := .bool false) rfl) _) rfl ?_
              refine WL_val gd0 ((o_pickF (v := .bool false) rfl rfl rfl) _) rfl ?_
              refine WL_val gd0 ((o_move (v := .bool false) rfl) _) rfl ?_
              refine WL_val gd0 ((o_pickF (v := .bool false) rfl rfl rfl) _) rfl ?_
              refine WL_val gd0 ((o_move (v := .bool false) rfl) _) rfl ?_
              refine WL_val gd0 ((o_pickF (v := .bool false) rfl rfl rfl) _) rfl ?_
              refine WL_val gd0 ((o_assign (v := .bool false) rfl) _) rfl ?_
              refine WL_nil ?_
              refine nrm ?_
              refine WC_ret ?_
              refine rtE ?_
              exact gv1 rfl rfl h
          · rw [if_neg (neT hb115)] at h
            refine WL_skip (gdN (b := x114) 53 rfl rfl hb115) rfl ?_
            refine WL_skip (gdN (b := x114) 53 rfl rfl hb115) rfl ?_
            refine WL_val gd0 ((o_pickF (v := .bool false) rfl hb115 rfl) _) rfl ?_
            refine WL_val gd0 ((o_move (v := .bool false) rfl) _) rfl ?_
            refine WL_skip (gdN (b := false) 57 rfl rfl rfl) rfl ?_
            refine WL_skip (gdN (b := false) 57 rfl rfl rfl) rfl ?_
            refine WL_val gd0 ((o_pickF (v := .bool false) rfl rfl rfl) _) rfl ?_
            refine WL_val gd0 ((o_move (v := .bool false) rfl) _) rfl ?_
            refine WL_skip (gdN (b := false) 61 rfl rfl rfl) rfl ?_
            refine WL_skip (gdN (b := false) 61 rfl rfl rfl) rfl ?_
            refine WL_val gd0 ((o_pickF (v := .bool false) rfl rfl rfl) _) rfl ?_
            refine WL_val gd0 ((o_move (v := .bool false) rfl) _) rfl ?_
            refine WL_val gd0 ((o_pickF (v := .bool false) rfl rfl rfl) _) rfl ?_
            refine WL_val gd0 ((o_move (v := .bool false) rfl) _) rfl ?_
            refine WL_val gd0 ((o_pickF (v := .bool false) rfl rfl rfl) _) rfl ?_
            refine WL_val gd0 ((o_move (v := .bool false) rfl) _) rfl ?_
            refine WL_val gd0 ((o_pickF (v := .bool false) rfl rfl rfl) _) rfl ?_
            refine WL_val gd0 ((o_assign (v := .bool false) rfl) _) rfl ?_
            refine WL_nil ?_
            refine nrm ?_
            refine WC_ret ?_
            refine rtE ?_
            exact gv1 rfl rfl h
        · rw [if_neg (of_decide_eq_false hb82)] at h
          refine WL_skip (gdN (b := (decide (r45 = 0))) 48 rfl rfl hb82) rfl ?_
          refine WL_skip (gdN (b := (decide (r45 = 0))) 48 rfl rfl hb82) rfl ?_
          refine WL_skip (gdN (b := (decide (r45 = 0))) 48 rfl rfl hb82) rfl ?_
          refine WL_val gd0 ((o_pickF (v := .bool false) rfl hb82 rfl) _) rfl ?_
          refine WL_val gd0 ((o_move (v := .bool false) rfl) _) rfl ?_
          refine WL_skip (gdN (b := false) 53 rfl rfl rfl) rfl ?_
          refine WL_skip (gdN (b := false) 53 rfl rfl rfl) rfl ?_
          refine WL_val gd0 ((o_pickF (v := .bool false) rfl rfl rfl) _) rfl ?_
          refine WL_val gd0 ((o_move (v := .bool false) rfl) _) rfl ?_
          refine WL_skip (gdN (b := false) 57 rfl rfl rfl) rfl ?_
          refine WL_skip (gdN (b := false) 57 rfl rfl rfl) rfl ?_
          refine WL_val gd0 ((o_pickF (v := .bool false) rfl rfl rfl) _) rfl ?_
          refine WL_val gd0 ((o_move (v := .bool false) rfl) _) rfl ?_
          refine WL_skip (gdN (b := false) 61 rfl rfl rfl) rfl ?_
          refine WL_skip (gdN (b := false) 61 rfl rfl rfl) rfl ?_
          refine WL_val gd0 ((o_pickF (v := .bool false) rfl rfl rfl) _) rfl ?_
          refine WL_val gd0 ((o_move (v := .bool false) rfl) _) rfl ?_
          refine WL_val gd0 ((o_pickF (v := .bool false) rfl rfl rfl) _) rfl ?_
          refine WL_val gd0 ((o_move (v := .bool false) rfl) _) rfl ?_
          refine WL_val gd0 ((o_pickF (v := .bool false) rfl rfl rfl) _) rfl ?_
          refine WL_val gd0 ((o_move (v := .bool false) rfl) _) rfl ?_
          refine WL_val gd0 ((o_pickF (v := .bool false) rfl rfl rfl) _) rfl ?_
          refine WL_val gd0 ((o_assign (v := .bool false) rfl) _) rfl ?_
          refine WL_nil ?_
          refine nrm ?_
          refine WC_ret ?_
          refine rtE ?_
          exact gv1 rfl rfl h
      · rw [if_neg (neT hb81)] at h
        refine WL_skip (gdN (b := (s79.toList == (ByteArray.mk #[0, 83, 2, 3, 24, 0, 170, 1, 0, 0, 0]).toList)) 44 rfl rfl hb81) rfl ?_
        refine WL_skip (gdN (b := (s79.toList == (ByteArray.mk #[0, 83, 2, 3, 24, 0, 170, 1, 0, 0, 0]).toList)) 44 rfl rfl hb81) rfl ?_
        refine WL_val gd0 ((o_pickF (v := .bool false) rfl hb81 rfl) _) rfl ?_
        refine WL_val gd0 ((o_move (v := .bool false) rfl) _) rfl ?_
        refine WL_skip (gdN (b := false) 48 rfl rfl rfl) rfl ?_
        refine WL_skip (gdN (b := false) 48 rfl rfl rfl) rfl ?_
        refine WL_skip (gdN (b := false) 48 rfl rfl rfl) rfl ?_
        refine WL_val gd0 ((o_pickF (v := .bool false) rfl rfl rfl) _) rfl ?_
        refine WL_val gd0 ((o_move (v := .bool false) rfl) _) rfl ?_
        refine WL_skip (gdN (b := false) 53 rfl rfl rfl) rfl ?_
        refine WL_skip (gdN (b := false) 53 rfl rfl rfl) rfl ?_
        refine WL_val gd0 ((o_pickF (v := .bool false) rfl rfl rfl) _) rfl ?_
        refine WL_val gd0 ((o_move (v := .bool false) rfl) _) rfl ?_
        refine WL_skip (gdN (b := false) 57 rfl rfl rfl) rfl ?_
        refine WL_skip (gdN (b := false) 57 rfl rfl rfl) rfl ?_
        refine WL_val gd0 ((o_pickF (v := .bool false) rfl rfl rfl) _) rfl ?_
        refine WL_val gd0 ((o_move (v := .bool false) rfl) _) rfl ?_
        refine WL_skip (gdN (b := false) 61 rfl rfl rfl) rfl ?_
        refine WL_skip (gdN (b := false) 61 rfl rfl rfl) rfl ?_
        refine WL_val gd0 ((o_pickF (v := .bool false) rfl rfl rfl) _) rfl ?_
        refine WL_val gd0 ((o_move (v := .bool false) rfl) _) rfl ?_
        refine WL_val gd0 ((o_pickF (v := .bool false) rfl rfl rfl) _) rfl ?_
        refine WL_val gd0 ((o_move (v := .bool false) rfl) _) rfl ?_
        refine WL_val gd0 ((o_pickF (v := .bool false) rfl rfl rfl) _) rfl ?_
        refine WL_val gd0 ((o_move (v := .bool false) rfl) _) rfl ?_
        refine WL_val gd0 ((o_pickF (v := .bool false) rfl rfl rfl) _) rfl ?_
        refine WL_val gd0 ((o_assign (v := .bool false) rfl) _) rfl ?_
        refine WL_nil ?_
        refine nrm ?_
        refine WC_ret ?_
        refine rtE ?_
        exact gv1 rfl rfl h

/-- spacecraft tmframe.Encode -/
def F9 (f1 : Int) (f2 : Int) (f3 : Int) (f4 : Int) (f5 : Int) (f_a6 : Option Addr) (f_n7 : Nat) (f_c8 : Nat) (f9 : Int) (f10 : Bool) (f11 : Bool) (f12 : Bool) (f13 : Int) (f14 : Int) (w15 : World) (k : Value → World → Prop) : Prop :=
  New w15 26 [.int .i64 f1, .int .i64 f2, .int .i64 f3, .int .i64 f4, .int .i64 f5, .slice f_a6 f_n7 f_c8, .int .i64 f9, .bool f10, .bool f11, .bool f12, .int .i64 f13, .int .i64 f14] (fun p16 w17 => ∃ (x18 x19 x20 x21 x22 : Int) (x_a23 : Option Addr) (x_n24 x_c25 : Nat) (x26 : Int) (x27 x28 x29 : Bool) (x30 x31 : Int), Cells w17 p16 0 [.int .i64 x18, .int .i64 x19, .int .i64 x20, .int .i64 x21, .int .i64 x22, .slice x_a23 x_n24 x_c25, .int .i64 x26, .bool x27, .bool x28, .bool x29, .int .i64 x30, .int .i64 x31] ∧ Does Try.prog 11 #[.agg #[.int .i64 x18, .int .i64 x19, .int .i64 x20, .int .i64 x21, .int .i64 x22, .slice x_a23 x_n24 x_c25, .int .i64 x26, .bool x27, .bool x28, .bool x29, .int .i64 x30, .int .i64 x31]] w17 (fun v w33 => ∃ (x34 : Bool), v = .bool x34 ∧ if (!x34) = true then
  k (.tuple #[.slice none 0 0, .int .i64 1]) w33
else
  Does Try.prog 16 #[] w33 (fun v w36 => ∃ (w37 : Option Addr), v = .pointer w37 ∧ ∃ (x38 : Int), w36.drew.cell? p16 = some (.int .i64 x38) ∧ ∃ (x40 : Int), w36.drew.cell? (p16.add 1) = some (.int .i64 x40) ∧ Does Try.prog 17 #[.pointer w37, .int .u64 0, .int .i64 2] w36.drew (fun v w42 => ∃ (x43 : Option Addr), v = .pointer x43 ∧ w42.cell? p16 = some (.int .i64 x38) ∧ w42.cell? (p16.add 1) = some (.int .i64 x40) ∧ Does Try.prog 17 #[.pointer x43, .int .u64 (IntKind.u64.wrap x38), .int .i64 10] w42 (fun v w46 => ∃ (x47 : Option Addr), v = .pointer x47 ∧ w46.cell? (p16.add 1) = some (.int .i64 x40) ∧ Does Try.prog 17 #[.pointer x47, .int .u64 (IntKind.u64.wrap x40), .int .i64 3] w46 (fun v w49 => ∃ (x50 : Option Addr), v = .pointer x50 ∧ Does Try.prog 17 #[.pointer x50, .int .u64 1, .int .i64 1] w49 (fun v w51 => ∃ (x52 : Option Addr), v = .pointer x52 ∧ ∃ (x53 : Int), w51.drew.cell? (p16.add 2) = some (.int .i64 x53) ∧ ∃ (x55 : Int), w51.drew.cell? (p16.add 3) = some (.int .i64 x55) ∧ ∃ (x57 : Int), w51.drew.cell? (p16.add 4) = some (.int .i64 x57) ∧ Does Try.prog 17 #[.pointer w37, .int .u64 (IntKind.u64.wrap x53), .int .i64 8] w51.drew (fun v w59 => ∃ (x60 : Option Addr), v = .pointer x60 ∧ w59.cell? (p16.add 3) = some (.int .i64 x55) ∧ w59.cell? (p16.add 4) = some (.int .i64 x57) ∧ Does Try.prog 17 #[.pointer x60, .int .u64 (IntKind.u64.wrap x55), .int .i64 8] w59 (fun v w63 => ∃ (x64 : Option Addr), v = .pointer x64 ∧ w63.cell? (p16.add 4) = some (.int .i64 x57) ∧ Does Try.prog 17 #[.pointer x64, .int .u64 3, .int .i64 5] w63 (fun v w66 => ∃ (x67 : Option Addr), v = .pointer x67 ∧ w66.cell? (p16.add 4) = some (.int .i64 x57) ∧ Does Try.prog 17 #[.pointer x67, .int .u64 (IntKind.u64.wrap x57), .int .i64 11] w66 (fun v w69 => ∃ (x70 : Option Addr), v = .pointer x70 ∧ ∃ (x71 : Int) (x72 x73 x74 : Bool) (x75 x76 : Int), Cells w69 (p16.add 6) 0 [.int .i64 x71, .bool x72, .bool x73, .bool x74, .int .i64 x75, .int .i64 x76] ∧ Does Try.prog 18 #[.agg #[.int .i64 x71, .bool x72, .bool x73, .bool x74, .int .i64 x75, .int .i64 x76]] w69 (fun v w78 => ∃ (r_a79 : Option Addr) (r_n80 r_c81 : Nat) (r82 : Int), v = .tuple #[.slice r_a79 r_n80 r_c81, .int .i64 r82] ∧ if r82 ≠ 0 then
    k (.tuple #[.slice none 0 0, .int .i64 r82]) w78
  else
    ∃ (x_a84 : Option Addr) (x_n85 x_c86 : Nat), w78.drew.cell? (p16.add 5) = some (.slice x_a84 x_n85 x_c86) ∧ Does Try.prog 21 #[.pointer w37] w78.drew (fun v w88 => ∃ (x_a89 : Option Addr) (x_n90 x_c91 : Nat), v = .slice x_a89 x_n90 x_c91 ∧ w88.cell? (p16.add 5) = some (.slice x_a84 x_n85 x_c86) ∧ New w88 22 [.slice x_a89 x_n90 x_c91, .slice x_a84 x_n85 x_c86, .slice r_a79 r_n80 r_c81] (fun p93 w94 => Does Try.prog 20 #[.slice (some p93) 3 3, .slice none 0 0] w94 (fun v w95 => ∃ (x_a96 : Option Addr) (x_n97 x_c98 : Nat), v = .slice x_a96 x_n97 x_c98 ∧ Does Try.prog 19 #[.slice x_a96 x_n97 x_c98] w95 (fun v w99 => ∃ (t_a100 : Option Addr) (t_n101 t_c102 : Nat), v = .slice t_a100 t_n101 t_c102 ∧ k (.tuple #[.slice t_a100 t_n101 t_c102, .int .i64 0]) w99))))))))))))))))
set_option maxRecDepth 100000 in
set_option maxHeartbeats 2000000 in
theorem w9 (f1 : Int) (f2 : Int) (f3 : Int) (f4 : Int) (f5 : Int) (f_a6 : Option Addr) (f_n7 : Nat) (f_c8 : Nat) (f9 : Int) (f10 : Bool) (f11 : Bool) (f12 : Bool) (f13 : Int) (f14 : Int) (w15 : World) (k : Value → World → Prop) (h : F9 f1 f2 f3 f4 f5 f_a6 f_n7 f_c8 f9 f10 f11 f12 f13 f14 w15 k) : Does Try.prog 9 #[.agg #[.int .i64 f1, .int .i64 f2, .int .i64 f3, .int .i64 f4, .int .i64 f5, .slice f_a6 f_n7 f_c8, .int .i64 f9, .bool f10, .bool f11, .bool f12, .int .i64 f13, .int .i64 f14]] w15 k := by
  refine enter 53 Try.func9 rfl rfl rfl ?_
  intro ρ hρ
  have e0 := hρ 0 _ rfl
  unfold F9 at h
  refine WC_seq ?_
  refine WC_region ?_
  have h := New.out h
  refine WL_val gd0 (o_box (v := .agg #[.int .i64 f1, .int .i64 f2, .int .i64 f3, .int .i64 f4, .int .i64 f5, .slice f_a6 f_n7 f_c8, .int .i64 f9, .bool f10, .bool f11, .bool f12, .int .i64 f13, .int .i64 f14]) (cs := [.int .i64 f1, .int .i64 f2, .int .i64 f3, .int .i64 f4, .int .i64 f5, .slice f_a6 f_n7 f_c8, .int .i64 f9, .bool f10, .bool f11, .bool f12, .int .i64 f13, .int .i64 f14]) (by exact e0) rfl) rfl ?_
  generalize hp16 : fresh w15 = p16 at h ⊢
  generalize hw17 : push w15 26 [.int .i64 f1, .int .i64 f2, .int .i64 f3, .int .i64 f4, .int .i64 f5, .slice f_a6 f_n7 f_c8, .int .i64 f9, .bool f10, .bool f11, .bool f12, .int .i64 f13, .int .i64 f14] = w17 at h ⊢
  try dsimp only at h
  refine WL_val gd0 ((o_assign (v := .slice none 0 0) rfl) _) rfl ?_
  refine WL_val gd0 ((o_assign (v := .int .i64 0) rfl) _) rfl ?_
  refine WL_nil ?_
  refine nrm ?_
  refine WC_seq ?_
  refine WC_seq ?_
  refine WC_region ?_
  obtain ⟨x18, x19, x20, x21, x22, x_a23, x_n24, x_c25, x26, x27, x28, x29, x30, x31, hc32, h⟩ := h
  refine WL_val gd0 (o_loadAgg (vs := [.int .i64 x18, .int .i64 x19, .int .i64 x20, .int .i64 x21, .int .i64 x22, .slice x_a23 x_n24 x_c25, .int .i64 x26, .bool x27, .bool x28, .bool x29, .int .i64 x30, .int .i64 x31]) Try.isAgg26 Try.sizeOf26 rfl hc32) rfl ?_
  refine WL_call gd0 (o_call Try.call11 (argCons rfl argNil) _) rfl (h.mono ?_)
  rintro _ w33 ⟨x34, rfl, h⟩
  refine WL_val gd0 ((o_not rfl) _) rfl ?_
  refine WL_nil ?_
  refine nrm ?_
  refine WC_cond (t := (!x34)) rfl (fun hb35 => ?_) (fun hb35 => ?_)
  · rw [if_pos hb35] at h
    refine WC_seq ?_
    refine WC_region ?_
    refine WL_val gd0 ((o_assign (v := .slice none 0 0) rfl) _) rfl ?_
    refine WL_val gd0 ((o_assign (v := .int .i64 1) rfl) _) rfl ?_
    refine WL_nil ?_
    refine nrm ?_
    refine WC_ret ?_
    refine rtT ?_
    refine rtE ?_
    exact gv2 rfl rfl rfl h
  · rw [if_neg (neT hb35)] at h
    refine WC_skip ?_
    refine nrm ?_
    refine WC_seq ?_
    refine WC_region ?_
    refine WL_call gd0 (o_call Try.call16 argNil _) rfl (h.mono ?_)
    rintro _ w36 ⟨w37, rfl, h⟩
    refine WL_val gd0 ((o_assign (v := .pointer w37) rfl) _) rfl ?_
    refine WL_nil ?_
    refine nrm ?_
    refine WC_seq ?_
    refine WC_draws [1, 5, 9, 10] (.look 0 (.look 2 (.look 3 (.look 4 (.look 6 (.look 7 (.look 8 (.act 1 (.act 5 (.act 9 (.act 10 .nil))))))))))) Try.mixed (by kernel_rfl) ?_
    refine WQ_val rfl gd0 (o_move (v := .pointer w37) rfl) rfl ?_
    refine WQ_val rfl gd0 (o_fieldAddr0 Try.underlying26 rfl Try.sizeOf3 rfl rfl rfl) rfl ?_
    obtain ⟨x38, hc39, h⟩ := h
    refine WQ_look (fun w => w.cell? p16 = some (.int .i64 x38)) rfl gd0 (fun w hc => (o_load Try.isAgg3 rfl hc)) hc39 rfl ?_
    refine WQ_val rfl gd0 (o_conv Try.underlying3 Try.underlying41 rfl) rfl ?_
    refine WQ_val rfl gd0 (o_fieldAddr 1 Try.underlying26 rfl Try.sizeOf3 rfl rfl rfl) rfl ?_
    obtain ⟨x40, hc41, h⟩ := h
    refine WQ_look (fun w => w.cell? (p16.add 1) = some (.int .i64 x40)) rfl gd0 (fun w hc => (o_load Try.isAgg3 rfl hc)) hc41 rfl ?_
    refine WQ_val rfl gd0 (o_conv Try.underlying3 Try.underlying41 rfl) rfl ?_
    refine WQ_call rfl gd0 (o_call Try.call17 (argCons rfl (argCons rfl (argCons rfl argNil))) _) rfl (h.mono ?_)
    rintro _ w42 ⟨x43, rfl, hh44, hh45, h⟩
    refine ⟨⟨⟨trivial, fun _ => hh44⟩, fun _ => hh45⟩, ?_⟩
    refine WQ_call rfl gd0 (o_call Try.call17 (argCons rfl (argCons rfl (argCons rfl argNil))) _) rfl (h.mono ?_)
    rintro _ w46 ⟨x47, rfl, hh48, h⟩
    refine ⟨⟨⟨trivial, depT (by kernel_rfl)⟩, fun _ => hh48⟩, ?_⟩
    refine WQ_call rfl gd0 (o_call Try.call17 (argCons rfl (argCons rfl (argCons rfl argNil))) _) rfl (h.mono ?_)
    rintro _ w49 ⟨x50, rfl, h⟩
    refine ⟨⟨⟨trivial, depT (by kernel_rfl)⟩, depT (by kernel_rfl)⟩, ?_⟩
    refine WQ_call rfl gd0 (o_call Try.call17 (argCons rfl (argCons rfl (argCons rfl argNil))) _) rfl (h.mono ?_)
    rintro _ w51 ⟨x52, rfl, h⟩
    refine ⟨⟨⟨trivial, depT (by kernel_rfl)⟩, depT (by kernel_rfl)⟩, ?_⟩
    refine WQ_nil ?_
    refine nrm ?_
    refine WC_seq ?_
    refine WC_draws [4, 8, 9, 13] (.look 0 (.look 1 (.look 2 (.look 3 (.look 5 (.look 6 (.look 7 (.look 10 (.look 11 (.look 12 (.act 4 (.act 8 (.act 9 (.act 13 .nil)))))))))))))) Try.mixed (by kernel_rfl) ?_
    refine WQ_val rfl gd0 (o_move (v := .pointer w37) rfl) rfl ?_
    refine WQ_val rfl gd0 (o_fieldAddr 2 Try.underlying26 rfl Try.sizeOf3 rfl rfl rfl) rfl ?_
    obtain ⟨x53, hc54, h⟩ := h
    refine WQ_look (fun w => w.cell? (p16.add 2) = some (.int .i64 x53)) rfl gd0 (fun w hc => (o_load Try.isAgg3 rfl hc)) hc54 rfl ?_
    refine WQ_val rfl gd0 (o_conv Try.underlying3 Try.underlying41 rfl) rfl ?_
    refine WQ_val rfl gd0 (o_fieldAddr 3 Try.underlying26 rfl Try.sizeOf3 rfl rfl rfl) rfl ?_
    obtain ⟨x55, hc56, h⟩ := h
    refine WQ_look (fun w => w.cell? (p16.add 3) = some (.int .i64 x55)) rfl gd0 (fun w hc => (o_load Try.isAgg3 rfl hc)) hc56 rfl ?_
    refine WQ_val rfl gd0 (o_conv Try.underlying3 Try.underlying41 rfl) rfl ?_
    refine WQ_val rfl gd0 (o_fieldAddr 4 Try.underlying26 rfl Try.sizeOf3 rfl rfl rfl) rfl ?_
    obtain ⟨x57, hc58, h⟩ := h
    refine WQ_look (fun w => w.cell? (p16.add 4) = some (.int .i64 x57)) rfl gd0 (fun w hc => (o_load Try.isAgg3 rfl hc)) hc58 rfl ?_
    refine WQ_val rfl gd0 (o_conv Try.underlying3 Try.underlying41 rfl) rfl ?_
    refine WQ_call rfl gd0 (o_call Try.call17 (argCons rfl (argCons rfl (argCons rfl argNil))) _) rfl (h.mono ?_)
    rintro _ w59 ⟨x60, rfl, hh61, hh62, h⟩
    refine ⟨⟨⟨⟨trivial, depT (by kernel_rfl)⟩, fun _ => hh61⟩, fun _ => hh62⟩, ?_⟩
    refine WQ_call rfl gd0 (o_call Try.call17 (argCons rfl (argCons rfl (argCons rfl argNil))) _) rfl (h.mono ?_)
    rintro _ w63 ⟨x64, rfl, hh65, h⟩
    refine ⟨⟨⟨⟨trivial, depT (by kernel_rfl)⟩, depT (by kernel_rfl)⟩, fun _ => hh65⟩, ?_⟩
    refine WQ_call rfl gd0 (o_call Try.call17 (argCons rfl (argCons rfl (argCons rfl argNil))) _) rfl (h.mono ?_)
    rintro _ w66 ⟨x67, rfl, hh68, h⟩
    refine ⟨⟨⟨⟨trivial, depT (by kernel_rfl)⟩, depT (by kernel_rfl)⟩, fun _ => hh68⟩, ?_⟩
    refine WQ_call rfl gd0 (o_call Try.call17 (argCons rfl (argCons rfl (argCons rfl argNil))) _) rfl (h.mono ?_)
    rintro _ w69 ⟨x70, rfl, h⟩
    refine ⟨⟨⟨⟨trivial, depT (by kernel_rfl)⟩, depT (by kernel_rfl)⟩, depT (by kernel_rfl)⟩, ?_⟩
    refine WQ_nil ?_
    refine nrm ?_
    refine WC_seq ?_
    refine WC_region ?_
    refine WL_val gd0 ((o_fieldAddr 6 Try.underlying26 rfl Try.sizeOf24 rfl rfl rfl) _) rfl ?_
    obtain ⟨x71, x72, x73, x74, x75, x76, hc77, h⟩ := h
    refine WL_val gd0 (o_loadAgg (vs := [.int .i64 x71, .bool x72, .bool x73, .bool x74, .int .i64 x75, .int .i64 x76]) Try.isAgg24 Try.sizeOf24 rfl hc77) rfl ?_
    refine WL_call gd0 (o_call Try.call18 (argCons rfl argNil) _) rfl (h.mono ?_)
    rintro _ w78 ⟨r_a79, r_n80, r_c81, r82, rfl, h⟩
    refine WL_val gd0 ((o_move (v := .tuple #[.slice r_a79 r_n80 r_c81, .int .i64 r82]) rfl) _) rfl ?_
    refine WL_val gd0 ((o_extract (vs := [.slice r_a79 r_n80 r_c81, .int .i64 r82]) (r := .slice r_a79 r_n80 r_c81) rfl rfl) _) rfl ?_
    refine WL_val gd0 ((o_extract (vs := [.slice r_a79 r_n80 r_c81, .int .i64 r82]) (r := .int .i64 r82) rfl rfl) _) rfl ?_
    refine WL_val gd0 ((o_assign (v := .slice r_a79 r_n80 r_c81) rfl) _) rfl ?_
    refine WL_val gd0 ((o_assign (v := .int .i64 r82) rfl) _) rfl ?_
    refine WL_nil ?_
    refine nrm ?_
    refine WC_seq ?_
    refine WC_seq ?_
    refine WC_region ?_
    refine WL_val gd0 ((o_move (v := .int .i64 r82) rfl) _) rfl ?_
    refine WL_val gd0 ((o_neq rfl rfl) _) rfl ?_
    refine WL_nil ?_
    refine nrm ?_
    refine WC_cond (t := (decide (r82 ≠ 0))) rfl (fun hb83 => ?_) (fun hb83 => ?_)
    · rw [if_pos (of_decide_eq_true hb83)] at h
      refine WC_seq ?_
      refine WC_region ?_
      refine WL_val gd0 ((o_move (v := .int .i64 r82) rfl) _) rfl ?_
      refine WL_val gd0 ((o_assign (v := .slice none 0 0) rfl) _) rfl ?_
      refine WL_val gd0 ((o_assign (v := .int .i64 r82) rfl) _) rfl ?_
      refine WL_nil ?_
      refine nrm ?_
      refine WC_ret ?_
      refine rtT ?_
      refine rtE ?_
      exact gv2 rfl rfl rfl h
    · rw [if_neg (of_decide_eq_false hb83)] at h
      refine WC_skip ?_
      refine nrm ?_
      refine WC_seq ?_
      refine WC_draws [1, 5, 6, 7] (.look 0 (.look 2 (.look 3 (.look 4 (.act 1 (.act 5 (.act 6 (.act 7 (.look 8 (.look 9 .nil)))))))))) Try.mixed (by kernel_rfl) ?_
      refine WQ_val rfl gd0 (o_move (v := .pointer w37) rfl) rfl ?_
      refine WQ_val rfl gd0 (o_fieldAddr 5 Try.underlying26 rfl Try.sizeOf22 rfl rfl rfl) rfl ?_
      obtain ⟨x_a84, x_n85, x_c86, hc87, h⟩ := h
      refine WQ_look (fun w => w.cell? (p16.add 5) = some (.slice x_a84 x_n85 x_c86)) rfl gd0 (fun w hc => (o_load Try.isAgg22 rfl hc)) hc87 rfl ?_
      refine WQ_val rfl gd0 (o_move (v := .slice r_a79 r_n80 r_c81) rfl) rfl ?_
      refine WQ_call rfl gd0 (o_call Try.call21 (argCons rfl argNil) _) rfl (h.mono ?_)
      rintro _ w88 ⟨x_a89, x_n90, x_c91, rfl, hh92, h⟩
      refine ⟨⟨trivial, fun _ => hh92⟩, ?_⟩
      have h := New.out h
      refine WQ_act rfl gd0 (o_buildSlice (e := 22) (ps := [(0, .slice x_a89 x_n90 x_c91), (1, .slice x_a84 x_n85 x_c86), (2, .slice r_a79 r_n80 r_c81)]) (cs := [.slice x_a89 x_n90 x_c91, .slice x_a84 x_n85 x_c86, .slice r_a79 r_n80 r_c81]) (partCons rfl (partCons rfl (partCons rfl partNil))) (fun w => by kernel_rfl)) rfl (by exact ⟨trivial, depT (by kernel_rfl)⟩) ?_
      generalize hp93 : fresh w88 = p93 at h ⊢
      generalize hw94 : push w88 22 [.slice x_a89 x_n90 x_c91, .slice x_a84 x_n85 x_c86, .slice r_a79 r_n80 r_c81] = w94 at h ⊢
      try dsimp only at h
      refine WQ_call rfl gd0 (o_call Try.call20 (argCons rfl (argCons rfl argNil)) _) rfl (h.mono ?_)
      rintro _ w95 ⟨x_a96, x_n97, x_c98, rfl, h⟩
      refine ⟨⟨trivial, depT (by kernel_rfl)⟩, ?_⟩
      refine WQ_call rfl gd0 (o_call Try.call19 (argCons rfl argNil) _) rfl (h.mono ?_)
      rintro _ w99 ⟨t_a100, t_n101, t_c102, rfl, h⟩
      refine ⟨⟨trivial, depT (by kernel_rfl)⟩, ?_⟩
      refine WQ_val rfl gd0 (o_assign (v := .slice t_a100 t_n101 t_c102) rfl) rfl ?_
      refine WQ_val rfl gd0 (o_assign (v := .int .i64 0) rfl) rfl ?_
      refine WQ_nil ?_
      refine nrm ?_
      refine WC_ret ?_
      refine rtE ?_
      exact gv2 rfl rfl rfl h

/-- spacecraft spacecraftref18.Encode -/
def F10 (f1 : Int) (f2 : Int) (f3 : Int) (f4 : Int) (f5 : Int) (f_a6 : Option Addr) (f_n7 : Nat) (f_c8 : Nat) (f9 : Int) (f10 : Bool) (f11 : Bool) (f12 : Bool) (f13 : Int) (f14 : Int) (w15 : World) (k : Value → World → Prop) : Prop :=
  New w15 26 [.int .i64 f1, .int .i64 f2, .int .i64 f3, .int .i64 f4, .int .i64 f5, .slice f_a6 f_n7 f_c8, .int .i64 f9, .bool f10, .bool f11, .bool f12, .int .i64 f13, .int .i64 f14] (fun p16 w17 => ∃ (x18 x19 x20 x21 x22 : Int) (x_a23 : Option Addr) (x_n24 x_c25 : Nat) (x26 : Int) (x27 x28 x29 : Bool) (x30 x31 : Int), Cells w17 p16 0 [.int .i64 x18, .int .i64 x19, .int .i64 x20, .int .i64 x21, .int .i64 x22, .slice x_a23 x_n24 x_c25, .int .i64 x26, .bool x27, .bool x28, .bool x29, .int .i64 x30, .int .i64 x31] ∧ Does Try.prog 12 #[.agg #[.int .i64 x18, .int .i64 x19, .int .i64 x20, .int .i64 x21, .int .i64 x22, .slice x_a23 x_n24 x_c25, .int .i64 x26, .bool x27, .bool x28, .bool x29, .int .i64 x30, .int .i64 x31]] w17 (fun v w33 => ∃ (x34 : Bool), v = .bool x34 ∧ if (!x34) = true then
  k (.tuple #[.slice none 0 0, .int .i64 1]) w33
else
  New w33 48 [.slice none 0 0] (fun p36 w37 => Does Try.prog 22 #[.pointer (some p36), .int .u64 0, .int .i64 2] w37 (fun v w38 => v = .tuple #[] ∧ ∃ (x39 : Int), w38.cell? p16 = some (.int .i64 x39) ∧ Does Try.prog 22 #[.pointer (some p36), .int .u64 (IntKind.u64.wrap x39), .int .i64 10] w38 (fun v w41 => v = .tuple #[] ∧ ∃ (x42 : Int), w41.cell? (p16.add 1) = some (.int .i64 x42) ∧ Does Try.prog 22 #[.pointer (some p36), .int .u64 (IntKind.u64.wrap x42), .int .i64 3] w41 (fun v w44 => v = .tuple #[] ∧ Does Try.prog 22 #[.pointer (some p36), .int .u64 1, .int .i64 1] w44 (fun v w45 => v = .tuple #[] ∧ ∃ (x46 : Int), w45.cell? (p16.add 2) = some (.int .i64 x46) ∧ Does Try.prog 22 #[.pointer (some p36), .int .u64 (IntKind.u64.wrap x46), .int .i64 8] w45 (fun v w48 => v = .tuple #[] ∧ ∃ (x49 : Int), w48.cell? (p16.add 3) = some (.int .i64 x49) ∧ Does Try.prog 22 #[.pointer (some p36), .int .u64 (IntKind.u64.wrap x49), .int .i64 8] w48 (fun v w51 => v = .tuple #[] ∧ Does Try.prog 22 #[.pointer (some p36), .int .u64 3, .int .i64 5] w51 (fun v w52 => v = .tuple #[] ∧ ∃ (x53 : Int), w52.cell? (p16.add 4) = some (.int .i64 x53) ∧ Does Try.prog 22 #[.pointer (some p36), .int .u64 (IntKind.u64.wrap x53), .int .i64 11] w52 (fun v w55 => v = .tuple #[] ∧ ∃ (x56 : Int) (x57 x58 x59 : Bool) (x60 x61 : Int), Cells w55 (p16.add 6) 0 [.int .i64 x56, .bool x57, .bool x58, .bool x59, .int .i64 x60, .int .i64 x61] ∧ Does Try.prog 23 #[.agg #[.int .i64 x56, .bool x57, .bool x58, .bool x59, .int .i64 x60, .int .i64 x61]] w55 (fun v w63 => ∃ (r_a64 : Option Addr) (r_n65 r_c66 : Nat) (r67 : Int), v = .tuple #[.slice r_a64 r_n65 r_c66, .int .i64 r67] ∧ ∃ (x_a68 : Option Addr) (x_n69 x_c70 : Nat), w63.drew.cell? (p16.add 5) = some (.slice x_a68 x_n69 x_c70) ∧ Does Try.prog 24 #[.pointer (some p36)] w63.drew (fun v w72 => ∃ (x_a73 : Option Addr) (x_n74 x_c75 : Nat), v = .slice x_a73 x_n74 x_c75 ∧ w72.cell? (p16.add 5) = some (.slice x_a68 x_n69 x_c70) ∧ ∃ (b_a77 : Option Addr) (b_n78 b_c79 : Nat) (w80 : World), (Builtin.append_ #[22, 22] 22 #[.slice x_a73 x_n74 x_c75, .slice x_a68 x_n69 x_c70]).run Try.prog w72 = .ok (.slice b_a77 b_n78 b_c79) w80 ∧ ∃ (b_a82 : Option Addr) (b_n83 b_c84 : Nat) (w85 : World), (Builtin.append_ #[22, 22] 22 #[.slice b_a77 b_n78 b_c79, .slice r_a64 r_n65 r_c66]).run Try.prog w80 = .ok (.slice b_a82 b_n83 b_c84) w85 ∧ Does Try.prog 25 #[.slice b_a82 b_n83 b_c84] w85 (fun v w87 => ∃ (sum88 : Int), v = .int .u16 sum88 ∧ New w87 5 [.int .u8 (IntKind.u8.wrap (IntKind.u16.wrap (Int.tdiv sum88 256))), .int .u8 (IntKind.u8.wrap (Int.tmod sum88 256))] (fun p89 w90 => ∃ (b_a91 : Option Addr) (b_n92 b_c93 : Nat) (w94 : World), (Builtin.append_ #[22, 22] 22 #[.slice b_a82 b_n83 b_c84, .slice (some p89) 2 2]).run Try.prog w90 = .ok (.slice b_a91 b_n92 b_c93) w94 ∧ k (.tuple #[.slice b_a91 b_n92 b_c93, .int .i64 0]) w94)))))))))))))))
set_option maxRecDepth 100000 in
set_option maxHeartbeats 2000000 in
theorem w10 (f1 : Int) (f2 : Int) (f3 : Int) (f4 : Int) (f5 : Int) (f_a6 : Option Addr) (f_n7 : Nat) (f_c8 : Nat) (f9 : Int) (f10 : Bool) (f11 : Bool) (f12 : Bool) (f13 : Int) (f14 : Int) (w15 : World) (k : Value → World → Prop) (h : F10 f1 f2 f3 f4 f5 f_a6 f_n7 f_c8 f9 f10 f11 f12 f13 f14 w15 k) : Does Try.prog 10 #[.agg #[.int .i64 f1, .int .i64 f2, .int .i64 f3, .int .i64 f4, .int .i64 f5, .slice f_a6 f_n7 f_c8, .int .i64 f9, .bool f10, .bool f11, .bool f12, .int .i64 f13, .int .i64 f14]] w15 k := by
  refine enter 59 Try.func10 rfl rfl rfl ?_
  intro ρ hρ
  have e0 := hρ 0 _ rfl
  unfold F10 at h
  refine WC_seq ?_
  refine WC_region ?_
  have h := New.out h
  refine WL_val gd0 (o_box (v := .agg #[.int .i64 f1, .int .i64 f2, .int .i64 f3, .int .i64 f4, .int .i64 f5, .slice f_a6 f_n7 f_c8, .int .i64 f9, .bool f10, .bool f11, .bool f12, .int .i64 f13, .int .i64 f14]) (cs := [.int .i64 f1, .int .i64 f2, .int .i64 f3, .int .i64 f4, .int .i64 f5, .slice f_a6 f_n7 f_c8, .int .i64 f9, .bool f10, .bool f11, .bool f12, .int .i64 f13, .int .i64 f14]) (by exact e0) rfl) rfl ?_
  generalize hp16 : fresh w15 = p16 at h ⊢
  generalize hw17 : push w15 26 [.int .i64 f1, .int .i64 f2, .int .i64 f3, .int .i64 f4, .int .i64 f5, .slice f_a6 f_n7 f_c8, .int .i64 f9, .bool f10, .bool f11, .bool f12, .int .i64 f13, .int .i64 f14] = w17 at h ⊢
  try dsimp only at h
  refine WL_val gd0 ((o_assign (v := .slice none 0 0) rfl) _) rfl ?_
  refine WL_val gd0 ((o_assign (v := .int .i64 0) rfl) _) rfl ?_
  refine WL_nil ?_
  refine nrm ?_
  refine WC_seq ?_
  refine WC_seq ?_
  refine WC_region ?_
  obtain ⟨x18, x19, x20, x21, x22, x_a23, x_n24, x_c25, x26, x27, x28, x29, x30, x31, hc32, h⟩ := h
  refine WL_val gd0 (o_loadAgg (vs := [.int .i64 x18, .int .i64 x19, .int .i64 x20, .int .i64 x21, .int .i64 x22, .slice x_a23 x_n24 x_c25, .int .i64 x26, .bool x27, .bool x28, .bool x29, .int .i64 x30, .int .i64 x31]) Try.isAgg26 Try.sizeOf26 rfl hc32) rfl ?_
  refine WL_call gd0 (o_call Try.call12 (argCons rfl argNil) _) rfl (h.mono ?_)
  rintro _ w33 ⟨x34, rfl, h⟩
  refine WL_val gd0 ((o_not rfl) _) rfl ?_
  refine WL_nil ?_
  refine nrm ?_
  refine WC_cond (t := (!x34)) rfl (fun hb35 => ?_) (fun hb35 => ?_)
  · rw [if_pos hb35] at h
    refine WC_seq ?_
    refine WC_region ?_
    refine WL_val gd0 ((o_assign (v := .slice none 0 0) rfl) _) rfl ?_
    refine WL_val gd0 ((o_assign (v := .int .i64 1) rfl) _) rfl ?_
    refine WL_nil ?_
    refine nrm ?_
    refine WC_ret ?_
    refine rtT ?_
    refine rtE ?_
    exact gv2 rfl rfl rfl h
  · rw [if_neg (neT hb35)] at h
    refine WC_skip ?_
    refine nrm ?_
    refine WC_seq ?_
    refine WC_region ?_
    have h := New.out h
    refine WL_val gd0 (o_alloc (z := .agg #[.slice none 0 0]) (cs := [.slice none 0 0]) Try.zeroValue48 rfl) rfl ?_
    generalize hp36 : fresh w33 = p36 at h ⊢
    generalize hw37 : push w33 48 [.slice none 0 0] = w37 at h ⊢
    try dsimp only at h
    refine WL_nil ?_
    refine nrm ?_
    refine WC_seq ?_
    refine WC_region ?_
    refine WL_call gd0 (o_call Try.call22 (argCons rfl (argCons rfl (argCons rfl argNil))) _) rfl (h.mono ?_)
    rintro _ w38 ⟨rfl, h⟩
    refine WL_nil ?_
    refine nrm ?_
    refine WC_seq ?_
    refine WC_region ?_
    refine WL_val gd0 ((o_fieldAddr0 Try.underlying26 rfl Try.sizeOf3 rfl rfl rfl) _) rfl ?_
    obtain ⟨x39, hc40, h⟩ := h
    refine WL_val gd0 (o_load Try.isAgg3 rfl hc40) rfl ?_
    refine WL_val gd0 ((o_conv Try.underlying3 Try.underlying41 rfl) _) rfl ?_
    refine WL_call gd0 (o_call Try.call22 (argCons rfl (argCons rfl (argCons rfl argNil))) _) rfl (h.mono ?_)
    rintro _ w41 ⟨rfl, h⟩
    refine WL_nil ?_
    refine nrm ?_
    refine WC_seq ?_
    refine WC_region ?_
    refine WL_val gd0 ((o_fieldAddr 1 Try.underlying26 rfl Try.sizeOf3 rfl rfl rfl) _) rfl ?_
    obtain ⟨x42, hc43, h⟩ := h
    refine WL_val gd0 (o_load Try.isAgg3 rfl hc43) rfl ?_
    refine WL_val gd0 ((o_conv Try.underlying3 Try.underlying41 rfl) _) rfl ?_
    refine WL_call gd0 (o_call Try.call22 (argCons rfl (argCons rfl (argCons rfl argNil))) _) rfl (h.mono ?_)
    rintro _ w44 ⟨rfl, h⟩
    refine WL_nil ?_
    refine nrm ?_
    refine WC_seq ?_
    refine WC_region ?_
    refine WL_call gd0 (o_call Try.call22 (argCons rfl (argCons rfl (argCons rfl argNil))) _) rfl (h.mono ?_)
    rintro _ w45 ⟨rfl, h⟩
    refine WL_nil ?_
    refine nrm ?_
    refine WC_seq ?_
    refine WC_region ?_
    refine WL_val gd0 ((o_fieldAddr 2 Try.underlying26 rfl Try.sizeOf3 rfl rfl rfl) _) rfl ?_
    obtain ⟨x46, hc47, h⟩ := h
    refine WL_val gd0 (o_load Try.isAgg3 rfl hc47) rfl ?_
    refine WL_val gd0 ((o_conv Try.underlying3 Try.underlying41 rfl) _) rfl ?_
    refine WL_call gd0 (o_call Try.call22 (argCons rfl (argCons rfl (argCons rfl argNil))) _) rfl (h.mono ?_)
    rintro _ w48 ⟨rfl, h⟩
    refine WL_nil ?_
    refine nrm ?_
    refine WC_seq ?_
    refine WC_region ?_
    refine WL_val gd0 ((o_fieldAddr 3 Try.underlying26 rfl Try.sizeOf3 rfl rfl rfl) _) rfl ?_
    obtain ⟨x49, hc50, h⟩ := h
    refine WL_val gd0 (o_load Try.isAgg3 rfl hc50) rfl ?_
    refine WL_val gd0 ((o_conv Try.underlying3 Try.underlying41 rfl) _) rfl ?_
    refine WL_call gd0 (o_call Try.call22 (argCons rfl (argCons rfl (argCons rfl argNil))) _) rfl (h.mono ?_)
    rintro _ w51 ⟨rfl, h⟩
    refine WL_nil ?_
    refine nrm ?_
    refine WC_seq ?_
    refine WC_region ?_
    refine WL_call gd0 (o_call Try.call22 (argCons rfl (argCons rfl (argCons rfl argNil))) _) rfl (h.mono ?_)
    rintro _ w52 ⟨rfl, h⟩
    refine WL_nil ?_
    refine nrm ?_
    refine WC_seq ?_
    refine WC_region ?_
    refine WL_val gd0 ((o_fieldAddr 4 Try.underlying26 rfl Try.sizeOf3 rfl rfl rfl) _) rfl ?_
    obtain ⟨x53, hc54, h⟩ := h
    refine WL_val gd0 (o_load Try.isAgg3 rfl hc54) rfl ?_
    refine WL_val gd0 ((o_conv Try.underlying3 Try.underlying41 rfl) _) rfl ?_
    refine WL_call gd0 (o_call Try.call22 (argCons rfl (argCons rfl (argCons rfl argNil))) _) rfl (h.mono ?_)
    rintro _ w55 ⟨rfl, h⟩
    refine WL_nil ?_
    refine nrm ?_
    refine WC_seq ?_
    refine WC_region ?_
    refine WL_val gd0 ((o_fieldAddr 6 Try.underlying26 rfl Try.sizeOf24 rfl rfl rfl) _) rfl ?_
    obtain ⟨x56, x57, x58, x59, x60, x61, hc62, h⟩ := h
    refine WL_val gd0 (o_loadAgg (vs := [.int .i64 x56, .bool x57, .bool x58, .bool x59, .int .i64 x60, .int .i64 x61]) Try.isAgg24 Try.sizeOf24 rfl hc62) rfl ?_
    refine WL_call gd0 (o_call Try.call23 (argCons rfl argNil) _) rfl (h.mono ?_)
    rintro _ w63 ⟨r_a64, r_n65, r_c66, r67, rfl, h⟩
    refine WL_val gd0 ((o_move (v := .tuple #[.slice r_a64 r_n65 r_c66, .int .i64 r67]) rfl) _) rfl ?_
    refine WL_val gd0 ((o_extract (vs := [.slice r_a64 r_n65 r_c66, .int .i64 r67]) (r := .slice r_a64 r_n65 r_c66) rfl rfl) _) rfl ?_
    refine WL_val gd0 ((o_extract (vs := [.slice r_a64 r_n65 r_c66, .int .i64 r67]) (r := .int .i64 r67) rfl rfl) _) rfl ?_
    refine WL_val gd0 ((o_assign (v := .slice r_a64 r_n65 r_c66) rfl) _) rfl ?_
    refine WL_val gd0 ((o_assign (v := .int .i64 r67) rfl) _) rfl ?_
    refine WL_nil ?_
    refine nrm ?_
    refine WC_seq ?_
    refine WC_draws [0, 3] (.look 1 (.look 2 (.act 0 (.act 3 (.look 4 .nil))))) Try.mixed (by kernel_rfl) ?_
    refine WQ_val rfl gd0 (o_fieldAddr 5 Try.underlying26 rfl Try.sizeOf22 rfl rfl rfl) rfl ?_
    obtain ⟨x_a68, x_n69, x_c70, hc71, h⟩ := h
    refine WQ_look (fun w => w.cell? (p16.add 5) = some (.slice x_a68 x_n69 x_c70)) rfl gd0 (fun w hc => (o_load Try.isAgg22 rfl hc)) hc71 rfl ?_
    refine WQ_call rfl gd0 (o_call Try.call24 (argCons rfl argNil) _) rfl (h.mono ?_)
    rintro _ w72 ⟨x_a73, x_n74, x_c75, rfl, hh76, h⟩
    refine ⟨⟨trivial, fun _ => hh76⟩, ?_⟩
    obtain ⟨b_a77, b_n78, b_c79, w80, r81, h⟩ := h
    refine WQ_act rfl gd0 (o_append rfl rfl r81) rfl (by exact ⟨trivial, depT (by kernel_rfl)⟩) ?_
    refine WQ_val rfl gd0 (o_assign (v := .slice b_a77 b_n78 b_c79) rfl) rfl ?_
    refine WQ_nil ?_
    refine nrm ?_
    refine WC_seq ?_
    refine WC_region ?_
    refine WL_val gd0 ((o_move (v := .slice b_a77 b_n78 b_c79) rfl) _) rfl ?_
    refine WL_val gd0 ((o_move (v := .slice r_a64 r_n65 r_c66) rfl) _) rfl ?_
    obtain ⟨b_a82, b_n83, b_c84, w85, r86, h⟩ := h
    refine WL_val gd0 (o_append rfl rfl r86) rfl ?_
    refine WL_val gd0 ((o_assign (v := .slice b_a82 b_n83 b_c84) rfl) _) rfl ?_
    refine WL_nil ?_
    refine nrm ?_
    refine WC_seq ?_
    refine WC_region ?_
    refine WL_val gd0 ((o_move (v := .slice b_a82 b_n83 b_c84) rfl) _) rfl ?_
    refine WL_call gd0 (o_call Try.call25 (argCons rfl argNil) _) rfl (h.mono ?_)
    rintro _ w87 ⟨sum88, rfl, h⟩
    refine WL_val gd0 ((o_assign (v := .int .u16 sum88) rfl) _) rfl ?_
    refine WL_nil ?_
    refine nrm ?_
    refine WC_seq ?_
    refine WC_region ?_
    refine WL_val gd0 ((o_move (v := .slice b_a82 b_n83 b_c84) rfl) _) rfl ?_
    refine WL_val gd0 ((o_move (v := .int .u16 sum88) rfl) _) rfl ?_
    refine WL_val gd0 ((fun w => o_quo rfl rfl w (by decide)) _) rfl ?_
    refine WL_val gd0 ((o_conv Try.underlying50 Try.underlying5 rfl) _) rfl ?_
    refine WL_val gd0 ((o_move (v := .int .u16 sum88) rfl) _) rfl ?_
    refine WL_val gd0 ((fun w => o_rem rfl rfl w (by decide)) _) rfl ?_
    refine WL_val gd0 ((o_conv Try.underlying50 Try.underlying5 rfl) _) rfl ?_
    have h := New.out h
    refine WL_val gd0 (o_buildSlice (e := 5) (ps := [(0, .int .u8 (IntKind.u8.wrap (IntKind.u16.wrap (Int.tdiv sum88 256)))), (1, .int .u8 (IntKind.u8.wrap (Int.tmod sum88 256)))]) (cs := [.int .u8 (IntKind.u8.wrap (IntKind.u16.wrap (Int.tdiv sum88 256))), .int .u8 (IntKind.u8.wrap (Int.tmod sum88 256))]) (partCons rfl (partCons rfl partNil)) (fun w => by kernel_rfl)) rfl ?_
    generalize hp89 : fresh w87 = p89 at h ⊢
    generalize hw90 : push w87 5 [.int .u8 (IntKind.u8.wrap (IntKind.u16.wrap (Int.tdiv sum88 256))), .int .u8 (IntKind.u8.wrap (Int.tmod sum88 256))] = w90 at h ⊢
    try dsimp only at h
    obtain ⟨b_a91, b_n92, b_c93, w94, r95, h⟩ := h
    refine WL_val gd0 (o_append rfl rfl r95) rfl ?_
    refine WL_val gd0 ((o_assign (v := .slice b_a91 b_n92 b_c93) rfl) _) rfl ?_
    refine WL_val gd0 ((o_assign (v := .int .i64 0) rfl) _) rfl ?_
    refine WL_nil ?_
    refine nrm ?_
    refine WC_ret ?_
    refine rtE ?_
    exact gv2 rfl rfl rfl h

/-- spacecraft tmframe.Valid -/
def F11 (f1 : Int) (f2 : Int) (f3 : Int) (f4 : Int) (f5 : Int) (f_a6 : Option Addr) (f_n7 : Nat) (f_c8 : Nat) (f9 : Int) (f10 : Bool) (f11 : Bool) (f12 : Bool) (f13 : Int) (f14 : Int) (w15 : World) (k : Value → World → Prop) : Prop :=
  New w15 26 [.int .i64 f1, .int .i64 f2, .int .i64 f3, .int .i64 f4, .int .i64 f5, .slice f_a6 f_n7 f_c8, .int .i64 f9, .bool f10, .bool f11, .bool f12, .int .i64 f13, .int .i64 f14] (fun p16 w17 => ∃ (x18 : Int), w17.cell? p16 = some (.int .i64 x18) ∧ Does Try.prog 26 #[.int .i64 x18, .int .i64 1023] w17 (fun v w20 => ∃ (x21 : Bool), v = .bool x21 ∧ if x21 = true then
  ∃ (x23 : Int), w20.cell? (p16.add 1) = some (.int .i64 x23) ∧ Does Try.prog 26 #[.int .i64 x23, .int .i64 7] w20 (fun v w25 => ∃ (x26 : Bool), v = .bool x26 ∧ if x26 = true then
    ∃ (x28 : Int), w25.cell? (p16.add 2) = some (.int .i64 x28) ∧ Does Try.prog 26 #[.int .i64 x28, .int .i64 255] w25 (fun v w30 => ∃ (x31 : Bool), v = .bool x31 ∧ if x31 = true then
      ∃ (x33 : Int), w30.cell? (p16.add 3) = some (.int .i64 x33) ∧ Does Try.prog 26 #[.int .i64 x33, .int .i64 255] w30 (fun v w35 => ∃ (x36 : Bool), v = .bool x36 ∧ if x36 = true then
        ∃ (x38 : Int), w35.cell? (p16.add 4) = some (.int .i64 x38) ∧ Does Try.prog 26 #[.int .i64 x38, .int .i64 2047] w35 (fun v w40 => ∃ (x41 : Bool), v = .bool x41 ∧ if x41 = true then
          ∃ (x_a43 : Option Addr) (x_n44 x_c45 : Nat), w40.cell? (p16.add 5) = some (.slice x_a43 x_n44 x_c45) ∧ if 1 ≤ (x_n44 : Int) then
            ∃ (x_a48 : Option Addr) (x_n49 x_c50 : Nat), w40.cell? (p16.add 5) = some (.slice x_a48 x_n49 x_c50) ∧ if (x_n49 : Int) ≤ 1012 then
              ∃ (x53 : Int) (x54 x55 x56 : Bool) (x57 x58 : Int), Cells w40 (p16.add 6) 0 [.int .i64 x53, .bool x54, .bool x55, .bool x56, .int .i64 x57, .int .i64 x58] ∧ Does Try.prog 27 #[.agg #[.int .i64 x53, .bool x54, .bool x55, .bool x56, .int .i64 x57, .int .i64 x58]] w40 (fun v w60 => ∃ (x61 : Bool), v = .bool x61 ∧ k (.bool x61) w60)
            else
              k (.bool false) w40
          else
            k (.bool false) w40
        else
          k (.bool false) w40)
      else
        k (.bool false) w35)
    else
      k (.bool false) w30)
  else
    k (.bool false) w25)
else
  k (.bool false) w20))
set_option maxRecDepth 100000 in
set_option maxHeartbeats 2000000 in
theorem w11 (f1 : Int) (f2 : Int) (f3 : Int) (f4 : Int) (f5 : Int) (f_a6 : Option Addr) (f_n7 : Nat) (f_c8 : Nat) (f9 : Int) (f10 : Bool) (f11 : Bool) (f12 : Bool) (f13 : Int) (f14 : Int) (w15 : World) (k : Value → World → Prop) (h : F11 f1 f2 f3 f4 f5 f_a6 f_n7 f_c8 f9 f10 f11 f12 f13 f14 w15 k) : Does Try.prog 11 #[.agg #[.int .i64 f1, .int .i64 f2, .int .i64 f3, .int .i64 f4, .int .i64 f5, .slice f_a6 f_n7 f_c8, .int .i64 f9, .bool f10, .bool f11, .bool f12, .int .i64 f13, .int .i64 f14]] w15 k := by
  refine enter 43 Try.func11 rfl rfl rfl ?_
  intro ρ hρ
  have e0 := hρ 0 _ rfl
  unfold F11 at h
  refine WC_seq ?_
  refine WC_region ?_
  have h := New.out h
  refine WL_val gd0 (o_box (v := .agg #[.int .i64 f1, .int .i64 f2, .int .i64 f3, .int .i64 f4, .int .i64 f5, .slice f_a6 f_n7 f_c8, .int .i64 f9, .bool f10, .bool f11, .bool f12, .int .i64 f13, .int .i64 f14]) (cs := [.int .i64 f1, .int .i64 f2, .int .i64 f3, .int .i64 f4, .int .i64 f5, .slice f_a6 f_n7 f_c8, .int .i64 f9, .bool f10, .bool f11, .bool f12, .int .i64 f13, .int .i64 f14]) (by exact e0) rfl) rfl ?_
  generalize hp16 : fresh w15 = p16 at h ⊢
  generalize hw17 : push w15 26 [.int .i64 f1, .int .i64 f2, .int .i64 f3, .int .i64 f4, .int .i64 f5, .slice f_a6 f_n7 f_c8, .int .i64 f9, .bool f10, .bool f11, .bool f12, .int .i64 f13, .int .i64 f14] = w17 at h ⊢
  try dsimp only at h
  refine WL_val gd0 ((o_assign (v := .bool false) rfl) _) rfl ?_
  refine WL_nil ?_
  refine nrm ?_
  refine WC_seq ?_
  refine WC_region ?_
  refine WL_val gd0 ((o_fieldAddr0 Try.underlying26 rfl Try.sizeOf3 rfl rfl rfl) _) rfl ?_
  obtain ⟨x18, hc19, h⟩ := h
  refine WL_val gd0 (o_load Try.isAgg3 rfl hc19) rfl ?_
  refine WL_call gd0 (o_call Try.call26 (argCons rfl (argCons rfl argNil)) _) rfl (h.mono ?_)
  rintro _ w20 ⟨x21, rfl, h⟩
  refine WL_val gd0 ((o_move (v := .bool x21) rfl) _) rfl ?_
  refine bsplit x21 (fun hb22 => ?_) (fun hb22 => ?_)
  · rw [if_pos hb22] at h
    refine WL_val (gdY (b := x21) 6 rfl rfl hb22) ((o_fieldAddr 1 Try.underlying26 rfl Try.sizeOf3 rfl rfl rfl) _) rfl ?_
    obtain ⟨x23, hc24, h⟩ := h
    refine WL_val (gdY (b := x21) 6 rfl rfl hb22) (o_load Try.isAgg3 rfl hc24) rfl ?_
    refine WL_call (gdY (b := x21) 6 rfl rfl hb22) (o_call Try.call26 (argCons rfl (argCons rfl argNil)) _) rfl (h.mono ?_)
    rintro _ w25 ⟨x26, rfl, h⟩
    refine WL_val gd0 ((o_pickT (v := .bool x26) rfl hb22 rfl) _) rfl ?_
    refine WL_val gd0 ((o_move (v := .bool x26) rfl) _) rfl ?_
    refine bsplit x26 (fun hb27 => ?_) (fun hb27 => ?_)
    · rw [if_pos hb27] at h
      refine WL_val (gdY (b := x26) 11 rfl rfl hb27) ((o_fieldAddr 2 Try.underlying26 rfl Try.sizeOf3 rfl rfl rfl) _) rfl ?_
      obtain ⟨x28, hc29, h⟩ := h
      refine WL_val (gdY (b := x26) 11 rfl rfl hb27) (o_load Try.isAgg3 rfl hc29) rfl ?_
      refine WL_call (gdY (b := x26) 11 rfl rfl hb27) (o_call Try.call26 (argCons rfl (argCons rfl argNil)) _) rfl (h.mono ?_)
      rintro _ w30 ⟨x31, rfl, h⟩
      refine WL_val gd0 ((o_pickT (v := .bool x31) rfl hb27 rfl) _) rfl ?_
      refine WL_val gd0 ((o_move (v := .bool x31) rfl) _) rfl ?_
      refine bsplit x31 (fun hb32 => ?_) (fun hb32 => ?_)
      · rw [if_pos hb32] at h
        refine WL_val (gdY (b := x31) 16 rfl rfl hb32) ((o_fieldAddr 3 Try.underlying26 rfl Try.sizeOf3 rfl rfl rfl) _) rfl ?_
        obtain ⟨x33, hc34, h⟩ := h
        refine WL_val (gdY (b := x31) 16 rfl rfl hb32) (o_load Try.isAgg3 rfl hc34) rfl ?_
        refine WL_call (gdY (b := x31) 16 rfl rfl hb32) (o_call Try.call26 (argCons rfl (argCons rfl argNil)) _) rfl (h.mono ?_)
        rintro _ w35 ⟨x36, rfl, h⟩
        refine WL_val gd0 ((o_pickT (v := .bool x36) rfl hb32 rfl) _) rfl ?_
        refine WL_val gd0 ((o_move (v := .bool x36) rfl) _) rfl ?_
        refine bsplit x36 (fun hb37 => ?_) (fun hb37 => ?_)
        · rw [if_pos hb37] at h
          refine WL_val (gdY (b := x36) 21 rfl rfl hb37) ((o_fieldAddr 4 Try.underlying26 rfl Try.sizeOf3 rfl rfl rfl) _) rfl ?_
          obtain ⟨x38, hc39, h⟩ := h
          refine WL_val (gdY (b := x36) 21 rfl rfl hb37) (o_load Try.isAgg3 rfl hc39) rfl ?_
          refine WL_call (gdY (b := x36) 21 rfl rfl hb37) (o_call Try.call26 (argCons rfl (argCons rfl argNil)) _) rfl (h.mono ?_)
          rintro _ w40 ⟨x41, rfl, h⟩
          refine WL_val gd0 ((o_pickT (v := .bool x41) rfl hb37 rfl) _) rfl ?_
          refine WL_val gd0 ((o_move (v := .bool x41) rfl) _) rfl ?_
          refine bsplit x41 (fun hb42 => ?_) (fun hb42 => ?_)
          · rw [if_pos hb42] at h
            refine WL_val (gdY (b := x41) 26 rfl rfl hb42) ((o_fieldAddr 5 Try.underlying26 rfl Try.sizeOf22 rfl rfl rfl) _) rfl ?_
            obtain ⟨x_a43, x_n44, x_c45, hc46, h⟩ := h
            refine WL_val (gdY (b := x41) 26 rfl rfl hb42) (o_load Try.isAgg22 rfl hc46) rfl ?_
            refine WL_val (gdY (b := x41) 26 rfl rfl hb42) ((o_len Try.underlying22 rfl) _) rfl ?_
            refine WL_val (gdY (b := x41) 26 rfl rfl hb42) ((o_geq rfl rfl) _) rfl ?_
            refine WL_val gd0 ((o_pickT (v := .bool (decide (1 ≤ (x_n44 : Int)))) rfl hb42 rfl) _) rfl ?_
            refine WL_val gd0 ((o_move (v := .bool (decide (1 ≤ (x_n44 : Int)))) rfl) _) rfl ?_
            refine bsplit (decide (1 ≤ (x_n44 : Int))) (fun hb47 => ?_) (fun hb47 => ?_)
            · rw [if_pos (of_decide_eq_true hb47)] at h
              refine WL_val (gdY (b := (decide (1 ≤ (x_n44 : Int)))) 32 rfl rfl hb47) ((o_fieldAddr 5 Try.underlying26 rfl Try.sizeOf22 rfl rfl rfl) _) rfl ?_
              obtain ⟨x_a48, x_n49, x_c50, hc51, h⟩ := h
              refine WL_val (gdY (b := (decide (1 ≤ (x_n44 : Int)))) 32 rfl rfl hb47) (o_load Try.isAgg22 rfl hc51) rfl ?_
              refine WL_val (gdY (b := (decide (1 ≤ (x_n44 : Int)))) 32 rfl rfl hb47) ((o_len Try.underlying22 rfl) _) rfl ?_
              refine WL_val (gdY (b := (decide (1 ≤ (x_n44 : Int)))) 32 rfl rfl hb47) ((o_leq rfl rfl) _) rfl ?_
              refine WL_val gd0 ((o_pickT (v := .bool (decide ((x_n49 : Int) ≤ 1012))) rfl hb47 rfl) _) rfl ?_
              refine WL_val gd0 ((o_move (v := .bool (decide ((x_n49 : Int) ≤ 1012))) rfl) _) rfl ?_
              refine bsplit (decide ((x_n49 : Int) ≤ 1012)) (fun hb52 => ?_) (fun hb52 => ?_)
              · rw [if_pos (of_decide_eq_true hb52)] at h
                refine WL_val (gdY (b := (decide ((x_n49 : Int) ≤ 1012))) 38 rfl rfl hb52) ((o_fieldAddr 6 Try.underlying26 rfl Try.sizeOf24 rfl rfl rfl) _) rfl ?_
                obtain ⟨x53, x54, x55, x56, x57, x58, hc59, h⟩ := h
                refine WL_val (gdY (b := (decide ((x_n49 : Int) ≤ 1012))) 38 rfl rfl hb52) (o_loadAgg (vs := [.int .i64 x53, .bool x54, .bool x55, .bool x56, .int .i64 x57, .int .i64 x58]) Try.isAgg24 Try.sizeOf24 rfl hc59) rfl ?_
                refine WL_call (gdY (b := (decide ((x_n49 : Int) ≤ 1012))) 38 rfl rfl hb52) (o_call Try.call27 (argCons rfl argNil) _) rfl (h.mono ?_)
                rintro _ w60 ⟨x61, rfl, h⟩
                refine WL_val gd0 ((o_pickT (v := .bool x61) rfl hb52 rfl) _) rfl ?_
                refine WL_val gd0 ((o_assign (v := .bool x61) rfl) _) rfl ?_
                refine WL_nil ?_
                refine nrm ?_
                refine WC_ret ?_
                refine rtE ?_
                exact gv1 rfl rfl h
              · rw [if_neg (of_decide_eq_false hb52)] at h
                refine WL_skip (gdN (b := (decide ((x_n49 : Int) ≤ 1012))) 38 rfl rfl hb52) rfl ?_
                refine WL_skip (gdN (b := (decide ((x_n49 : Int) ≤ 1012))) 38 rfl rfl hb52) rfl ?_
                refine WL_skip (gdN (b := (decide ((x_n49 : Int) ≤ 1012))) 38 rfl rfl hb52) rfl ?_
                refine WL_val gd0 ((o_pickF (v := .bool false) rfl hb52 rfl) _) rfl ?_
                refine WL_val gd0 ((o_assign (v := .bool false) rfl) _) rfl ?_
                refine WL_nil ?_
                refine nrm ?_
                refine WC_ret ?_
                refine rtE ?_
                exact gv1 rfl rfl h
            · rw [if_neg (of_decide_eq_false hb47)] at h
              refine WL_skip (gdN (b := (decide (1 ≤ (x_n44 : Int)))) 32 rfl rfl hb47) rfl ?_
              refine WL_skip (gdN (b := (decide (1 ≤ (x_n44 : Int)))) 32 rfl rfl hb47) rfl ?_
              refine WL_skip (gdN (b := (decide (1 ≤ (x_n44 : Int)))) 32 rfl rfl hb47) rfl ?_
              refine WL_skip (gdN (b := (decide (1 ≤ (x_n44 : Int)))) 32 rfl rfl hb47) rfl ?_
              refine WL_val gd0 ((o_pickF (v := .bool false) rfl hb47 rfl) _) rfl ?_
              refine WL_val gd0 ((o_move (v := .bool false) rfl) _) rfl ?_
              refine WL_skip (gdN (b := false) 38 rfl rfl rfl) rfl ?_
              refine WL_skip (gdN (b := false) 38 rfl rfl rfl) rfl ?_
              refine WL_skip (gdN (b := false) 38 rfl rfl rfl) rfl ?_
              refine WL_val gd0 ((o_pickF (v := .bool false) rfl rfl rfl) _) rfl ?_
              refine WL_val gd0 ((o_assign (v := .bool false) rfl) _) rfl ?_
              refine WL_nil ?_
              refine nrm ?_
              refine WC_ret ?_
              refine rtE ?_
              exact gv1 rfl rfl h
          · rw [if_neg (neT hb42)] at h
            refine WL_skip (gdN (b := x41) 26 rfl rfl hb42) rfl ?_
            refine WL_skip (gdN (b := x41) 26 rfl rfl hb42) rfl ?_
            refine WL_skip (gdN (b := x41) 26 rfl rfl hb42) rfl ?_
            refine WL_skip (gdN (b := x41) 26 rfl rfl hb42) rfl ?_
            refine WL_val gd0 ((o_pickF (v := .bool false) rfl hb42 rfl) _) rfl ?_
            refine WL_val gd0 ((o_move (v := .bool false) rfl) _) rfl ?_
            refine WL_skip (gdN (b := false) 32 rfl rfl rfl) rfl ?_
            refine WL_skip (gdN (b := false) 32 rfl rfl rfl) rfl ?_
            refine WL_skip (gdN (b := false) 32 rfl rfl rfl) rfl ?_
            refine WL_skip (gdN (b := false) 32 rfl rfl rfl) rfl ?_
            refine WL_val gd0 ((o_pickF (v := .bool false) rfl rfl rfl) _) rfl ?_
            refine WL_val gd0 ((o_move (v := .bool false) rfl) _) rfl ?_
            refine WL_skip (gdN (b := false) 38 rfl rfl rfl) rfl ?_
            refine WL_skip (gdN (b := false) 38 rfl rfl rfl) rfl ?_
            refine WL_skip (gdN (b := false) 38 rfl rfl rfl) rfl ?_
            refine WL_val gd0 ((o_pickF (v := .bool false) rfl rfl rfl) _) rfl ?_
            refine WL_val gd0 ((o_assign (v := .bool false) rfl) _) rfl ?_
            refine WL_nil ?_
            refine nrm ?_
            refine WC_ret ?_
            refine rtE ?_
            exact gv1 rfl rfl h
        · rw [if_neg (neT hb37)] at h
          refine WL_skip (gdN (b := x36) 21 rfl rfl hb37) rfl ?_
          refine WL_skip (gdN (b := x36) 21 rfl rfl hb37) rfl ?_
          refine WL_skip (gdN (b := x36) 21 rfl rfl hb37) rfl ?_
          refine WL_val gd0 ((o_pickF (v := .bool false) rfl hb37 rfl) _) rfl ?_
          refine WL_val gd0 ((o_move (v := .bool false) rfl) _) rfl ?_
          refine WL_skip (gdN (b := false) 26 rfl rfl rfl) rfl ?_
          refine WL_skip (gdN (b := false) 26 rfl rfl rfl) rfl ?_
          refine WL_skip (gdN (b := false) 26 rfl rfl rfl) rfl ?_
          refine WL_skip (gdN (b := false) 26 rfl rfl rfl) rfl ?_
          refine WL_val gd0 ((o_pickF (v := .bool false) rfl rfl rfl) _) rfl ?_
          refine WL_val gd0 ((o_move (v := .bool false) rfl) _) rfl ?_
          refine WL_skip (gdN (b := false) 32 rfl rfl rfl) rfl ?_
          refine WL_skip (gdN (b := false) 32 rfl rfl rfl) rfl ?_
          refine WL_skip (gdN (b := false) 32 rfl rfl rfl) rfl ?_
          refine WL_skip (gdN (b := false) 32 rfl rfl rfl) rfl ?_
          refine WL_val gd0 ((o_pickF (v := .bool false) rfl rfl rfl) _) rfl ?_
          refine WL_val gd0 ((o_move (v := .bool false) rfl) _) rfl ?_
          refine WL_skip (gdN (b := false) 38 rfl rfl rfl) rfl ?_
          refine WL_skip (gdN (b := false) 38 rfl rfl rfl) rfl ?_
          refine WL_skip (gdN (b := false) 38 rfl rfl rfl) rfl ?_
          refine WL_val gd0 ((o_pickF (v := .bool false) rfl rfl rfl) _) rfl ?_
          refine WL_val gd0 ((o_assign (v := .bool false) rfl) _) rfl ?_
          refine WL_nil ?_
          refine nrm ?_
          refine WC_ret ?_
          refine rtE ?_
          exact gv1 rfl rfl h
      · rw [if_neg (neT hb32)] at h
        refine WL_skip (gdN (b := x31) 16 rfl rfl hb32) rfl ?_
        refine WL_skip (gdN (b := x31) 16 rfl rfl hb32) rfl ?_
        refine WL_skip (gdN (b := x31) 16 rfl rfl hb32) rfl ?_
        refine WL_val gd0 ((o_pickF (v := .bool false) rfl hb32 rfl) _) rfl ?_
        refine WL_val gd0 ((o_move (v := .bool false) rfl) _) rfl ?_
        refine WL_skip (gdN (b := false) 21 rfl rfl rfl) rfl ?_
        refine WL_skip (gdN (b := false) 21 rfl rfl rfl) rfl ?_
        refine WL_skip (gdN (b := false) 21 rfl rfl rfl) rfl ?_
        refine WL_val gd0 ((o_pickF (v := .bool false) rfl rfl rfl) _) rfl ?_
        refine WL_val gd0 ((o_move (v := .bool false) rfl) _) rfl ?_
        refine WL_skip (gdN (b := false) 26 rfl rfl rfl) rfl ?_
        refine WL_skip (gdN (b := false) 26 rfl rfl rfl) rfl ?_
        refine WL_skip (gdN (b := false) 26 rfl rfl rfl) rfl ?_
        refine WL_skip (gdN (b := false) 26 rfl rfl rfl) rfl ?_
        refine WL_val gd0 ((o_pickF (v := .bool false) rfl rfl rfl) _) rfl ?_
        refine WL_val gd0 ((o_move (v := .bool false) rfl) _) rfl ?_
        refine WL_skip (gdN (b := false) 32 rfl rfl rfl) rfl ?_
        refine WL_skip (gdN (b := false) 32 rfl rfl rfl) rfl ?_
        refine WL_skip (gdN (b := false) 32 rfl rfl rfl) rfl ?_
        refine WL_skip (gdN (b := false) 32 rfl rfl rfl) rfl ?_
        refine WL_val gd0 ((o_pickF (v := .bool false) rfl rfl rfl) _) rfl ?_
        refine WL_val gd0 ((o_move (v := .bool false) rfl) _) rfl ?_
        refine WL_skip (gdN (b := false) 38 rfl rfl rfl) rfl ?_
        refine WL_skip (gdN (b := false) 38 rfl rfl rfl) rfl ?_
        refine WL_skip (gdN (b := false) 38 rfl rfl rfl) rfl ?_
        refine WL_val gd0 ((o_pickF (v := .bool false) rfl rfl rfl) _) rfl ?_
        refine WL_val gd0 ((o_assign (v := .bool false) rfl) _) rfl ?_
        refine WL_nil ?_
        refine nrm ?_
        refine WC_ret ?_
        refine rtE ?_
        exact gv1 rfl rfl h
    · rw [if_neg (neT hb27)] at h
      refine WL_skip (gdN (b := x26) 11 rfl rfl hb27) rfl ?_
      refine WL_skip (gdN (b := x26) 11 rfl rfl hb27) rfl ?_
      refine WL_skip (gdN (b := x26) 11 rfl rfl hb27) rfl ?_
      refine WL_val gd0 ((o_pickF (v := .bool false) rfl hb27 rfl) _) rfl ?_
      refine WL_val gd0 ((o_move (v := .bool false) rfl) _) rfl ?_
      refine WL_skip (gdN (b := false) 16 rfl rfl rfl) rfl ?_
      refine WL_skip (gdN (b := false) 16 rfl rfl rfl) rfl ?_
      refine WL_skip (gdN (b := false) 16 rfl rfl rfl) rfl ?_
      refine WL_val gd0 ((o_pickF (v := .bool false) rfl rfl rfl) _) rfl ?_
      refine WL_val gd0 ((o_move (v := .bool false) rfl) _) rfl ?_
      refine WL_skip (gdN (b := false) 21 rfl rfl rfl) rfl ?_
      refine WL_skip (gdN (b := false) 21 rfl rfl rfl) rfl ?_
      refine WL_skip (gdN (b := false) 21 rfl rfl rfl) rfl ?_
      refine WL_val gd0 ((o_pickF (v := .bool false) rfl rfl rfl) _) rfl ?_
      refine WL_val gd0 ((o_move (v := .bool false) rfl) _) rfl ?_
      refine WL_skip (gdN (b := false) 26 rfl rfl rfl) rfl ?_
      refine WL_skip (gdN (b := false) 26 rfl rfl rfl) rfl ?_
      refine WL_skip (gdN (b := false) 26 rfl rfl rfl) rfl ?_
      refine WL_skip (gdN (b := false) 26 rfl rfl rfl) rfl ?_
      refine WL_val gd0 ((o_pickF (v := .bool false) rfl rfl rfl) _) rfl ?_
      refine WL_val gd0 ((o_move (v := .bool false) rfl) _) rfl ?_
      refine WL_skip (gdN (b := false) 32 rfl rfl rfl) rfl ?_
      refine WL_skip (gdN (b := false) 32 rfl rfl rfl) rfl ?_
      refine WL_skip (gdN (b := false) 32 rfl rfl rfl) rfl ?_
      refine WL_skip (gdN (b := false) 32 rfl rfl rfl) rfl ?_
      refine WL_val gd0 ((o_pickF (v := .bool false) rfl rfl rfl) _) rfl ?_
      refine WL_val gd0 ((o_move (v := .bool false) rfl) _) rfl ?_
      refine WL_skip (gdN (b := false) 38 rfl rfl rfl) rfl ?_
      refine WL_skip (gdN (b := false) 38 rfl rfl rfl) rfl ?_
      refine WL_skip (gdN (b := false) 38 rfl rfl rfl) rfl ?_
      refine WL_val gd0 ((o_pickF (v := .bool false) rfl rfl rfl) _) rfl ?_
      refine WL_val gd0 ((o_assign (v := .bool false) rfl) _) rfl ?_
      refine WL_nil ?_
      refine nrm ?_
      refine WC_ret ?_
      refine rtE ?_
      exact gv1 rfl rfl h
  · rw [if_neg (neT hb22)] at h
    refine WL_skip (gdN (b := x21) 6 rfl rfl hb22) rfl ?_
    refine WL_skip (gdN (b := x21) 6 rfl rfl hb22) rfl ?_
    refine WL_skip (gdN (b := x21) 6 rfl rfl hb22) rfl ?_
    refine WL_val gd0 ((o_pickF (v := .bool false) rfl hb22 rfl) _) rfl ?_
    refine WL_val gd0 ((o_move (v := .bool false) rfl) _) rfl ?_
    refine WL_skip (gdN (b := false) 11 rfl rfl rfl) rfl ?_
    refine WL_skip (gdN (b := false) 11 rfl rfl rfl) rfl ?_
    refine WL_skip (gdN (b := false) 11 rfl rfl rfl) rfl ?_
    refine WL_val gd0 ((o_pickF (v := .bool false) rfl rfl rfl) _) rfl ?_
    refine WL_val gd0 ((o_move (v := .bool false) rfl) _) rfl ?_
    refine WL_skip (gdN (b := false) 16 rfl rfl rfl) rfl ?_
    refine WL_skip (gdN (b := false) 16 rfl rfl rfl) rfl ?_
    refine WL_skip (gdN (b := false) 16 rfl rfl rfl) rfl ?_
    refine WL_val gd0 ((o_pickF (v := .bool false) rfl rfl rfl) _) rfl ?_
    refine WL_val gd0 ((o_move (v := .bool false) rfl) _) rfl ?_
    refine WL_skip (gdN (b := false) 21 rfl rfl rfl) rfl ?_
    refine WL_skip (gdN (b := false) 21 rfl rfl rfl) rfl ?_
    refine WL_skip (gdN (b := false) 21 rfl rfl rfl) rfl ?_
    refine WL_val gd0 ((o_pickF (v := .bool false) rfl rfl rfl) _) rfl ?_
    refine WL_val gd0 ((o_move (v := .bool false) rfl) _) rfl ?_
    refine WL_skip (gdN (b := false) 26 rfl rfl rfl) rfl ?_
    refine WL_skip (gdN (b := false) 26 rfl rfl rfl) rfl ?_
    refine WL_skip (gdN (b := false) 26 rfl rfl rfl) rfl ?_
    refine WL_skip (gdN (b := false) 26 rfl rfl rfl) rfl ?_
    refine WL_val gd0 ((o_pickF (v := .bool false) rfl rfl rfl) _) rfl ?_
    refine WL_val gd0 ((o_move (v := .bool false) rfl) _) rfl ?_
    refine WL_skip (gdN (b := false) 32 rfl rfl rfl) rfl ?_
    refine WL_skip (gdN (b := false) 32 rfl rfl rfl) rfl ?_
    refine WL_skip (gdN (b := false) 32 rfl rfl rfl) rfl ?_
    refine WL_skip (gdN (b := false) 32 rfl rfl rfl) rfl ?_
    refine WL_val gd0 ((o_pickF (v := .bool false) rfl rfl rfl) _) rfl ?_
    refine WL_val gd0 ((o_move (v := .bool false) rfl) _) rfl ?_
    refine WL_skip (gdN (b := false) 38 rfl rfl rfl) rfl ?_
    refine WL_skip (gdN (b := false) 38 rfl rfl rfl) rfl ?_
    refine WL_skip (gdN (b := false) 38 rfl rfl rfl) rfl ?_
    refine WL_val gd0 ((o_pickF (v := .bool false) rfl rfl rfl) _) rfl ?_
    refine WL_val gd0 ((o_assign (v := .bool false) rfl) _) rfl ?_
    refine WL_nil ?_
    refine nrm ?_
    refine WC_ret ?_
    refine rtE ?_
    exact gv1 rfl rfl h

/-- spacecraft spacecraftref18.Valid -/
def F12 (f1 : Int) (f2 : Int) (f3 : Int) (f4 : Int) (f5 : Int) (f_a6 : Option Addr) (f_n7 : Nat) (f_c8 : Nat) (f9 : Int) (f10 : Bool) (f11 : Bool) (f12 : Bool) (f13 : Int) (f14 : Int) (w15 : World) (k : Value → World → Prop) : Prop :=
  New w15 26 [.int .i64 f1, .int .i64 f2, .int .i64 f3, .int .i64 f4, .int .i64 f5, .slice f_a6 f_n7 f_c8, .int .i64 f9, .bool f10, .bool f11, .bool f12, .int .i64 f13, .int .i64 f14] (fun p16 w17 => ∃ (x18 : Int), w17.cell? p16 = some (.int .i64 x18) ∧ if x18 < 0 then
  k (.bool false) w17
else
  ∃ (x21 : Int), w17.cell? p16 = some (.int .i64 x21) ∧ if 1023 < x21 then
    k (.bool false) w17
  else
    ∃ (x24 : Int), w17.cell? (p16.add 1) = some (.int .i64 x24) ∧ if x24 < 0 then
      k (.bool false) w17
    else
      ∃ (x27 : Int), w17.cell? (p16.add 1) = some (.int .i64 x27) ∧ if 7 < x27 then
        k (.bool false) w17
      else
        ∃ (x30 : Int), w17.cell? (p16.add 2) = some (.int .i64 x30) ∧ if x30 < 0 then
          k (.bool false) w17
        else
          ∃ (x33 : Int), w17.cell? (p16.add 2) = some (.int .i64 x33) ∧ if 255 < x33 then
            k (.bool false) w17
          else
            ∃ (x36 : Int), w17.cell? (p16.add 3) = some (.int .i64 x36) ∧ if x36 < 0 then
              k (.bool false) w17
            else
              ∃ (x39 : Int), w17.cell? (p16.add 3) = some (.int .i64 x39) ∧ if 255 < x39 then
                k (.bool false) w17
              else
                ∃ (x42 : Int), w17.cell? (p16.add 4) = some (.int .i64 x42) ∧ if x42 < 0 then
                  k (.bool false) w17
                else
                  ∃ (x45 : Int), w17.cell? (p16.add 4) = some (.int .i64 x45) ∧ if 2047 < x45 then
                    k (.bool false) w17
                  else
                    ∃ (x_a48 : Option Addr) (x_n49 x_c50 : Nat), w17.cell? (p16.add 5) = some (.slice x_a48 x_n49 x_c50) ∧ if 1 ≤ (x_n49 : Int) then
                      ∃ (x_a53 : Option Addr) (x_n54 x_c55 : Nat), w17.cell? (p16.add 5) = some (.slice x_a53 x_n54 x_c55) ∧ if (x_n54 : Int) ≤ 1012 then
                        ∃ (x58 : Int) (x59 x60 x61 : Bool) (x62 x63 : Int), Cells w17 (p16.add 6) 0 [.int .i64 x58, .bool x59, .bool x60, .bool x61, .int .i64 x62, .int .i64 x63] ∧ Does Try.prog 28 #[.agg #[.int .i64 x58, .bool x59, .bool x60, .bool x61, .int .i64 x62, .int .i64 x63]] w17 (fun v w65 => ∃ (x66 : Bool), v = .bool x66 ∧ k (.bool x66) w65)
                      else
                        k (.bool false) w17
                    else
                      k (.bool false) w17)
set_option maxRecDepth 100000 in
set_option maxHeartbeats 2000000 in
theorem w12 (f1 : Int) (f2 : Int) (f3 : Int) (f4 : Int) (f5 : Int) (f_a6 : Option Addr) (f_n7 : Nat) (f_c8 : Nat) (f9 : Int) (f10 : Bool) (f11 : Bool) (f12 : Bool) (f13 : Int) (f14 : Int) (w15 : World) (k : Value → World → Prop) (h : F12 f1 f2 f3 f4 f5 f_a6 f_n7 f_c8 f9 f10 f11 f12 f13 f14 w15 k) : Does Try.prog 12 #[.agg #[.int .i64 f1, .int .i64 f2, .int .i64 f3, .int .i64 f4, .int .i64 f5, .slice f_a6 f_n7 f_c8, .int .i64 f9, .bool f10, .bool f11, .bool f12, .int .i64 f13, .int .i64 f14]] w15 k := by
  refine enter 64 Try.func12 rfl rfl rfl ?_
  intro ρ hρ
  have e0 := hρ 0 _ rfl
  unfold F12 at h
  refine WC_seq ?_
  refine WC_region ?_
  have h := New.out h
  refine WL_val gd0 (o_box (v := .agg #[.int .i64 f1, .int .i64 f2, .int .i64 f3, .int .i64 f4, .int .i64 f5, .slice f_a6 f_n7 f_c8, .int .i64 f9, .bool f10, .bool f11, .bool f12, .int .i64 f13, .int .i64 f14]) (cs := [.int .i64 f1, .int .i64 f2, .int .i64 f3, .int .i64 f4, .int .i64 f5, .slice f_a6 f_n7 f_c8, .int .i64 f9, .bool f10, .bool f11, .bool f12, .int .i64 f13, .int .i64 f14]) (by exact e0) rfl) rfl ?_
  generalize hp16 : fresh w15 = p16 at h ⊢
  generalize hw17 : push w15 26 [.int .i64 f1, .int .i64 f2, .int .i64 f3, .int .i64 f4, .int .i64 f5, .slice f_a6 f_n7 f_c8, .int .i64 f9, .bool f10, .bool f11, .bool f12, .int .i64 f13, .int .i64 f14] = w17 at h ⊢
  try dsimp only at h
  refine WL_val gd0 ((o_assign (v := .bool false) rfl) _) rfl ?_
  refine WL_nil ?_
  refine nrm ?_
  refine WC_seq ?_
  refine WC_seq ?_
  refine WC_region ?_
  refine WL_val gd0 ((o_fieldAddr0 Try.underlying26 rfl Try.sizeOf3 rfl rfl rfl) _) rfl ?_
  obtain ⟨x18, hc19, h⟩ := h
  refine WL_val gd0 (o_load Try.isAgg3 rfl hc19) rfl ?_
  refine WL_val gd0 ((o_lss rfl rfl) _) rfl ?_
  refine WL_val gd0 ((o_move (v := .bool (decide (x18 < 0))) rfl) _) rfl ?_
  refine bsplit (decide (x18 < 0)) (fun hb20 => ?_) (fun hb20 => ?_)
  · rw [if_pos (of_decide_eq_true hb20)] at h
    refine WL_skip (gdN (b := (decide (x18 < 0))) 6 rfl rfl hb20) rfl ?_
    refine WL_skip (gdN (b := (decide (x18 < 0))) 6 rfl rfl hb20) rfl ?_
    refine WL_skip (gdN (b := (decide (x18 < 0))) 6 rfl rfl hb20) rfl ?_
    refine WL_val gd0 ((o_pickT (v := .bool true) rfl hb20 rfl) _) rfl ?_
    refine WL_val gd0 ((o_move (v := .bool true) rfl) _) rfl ?_
    refine WL_skip (gdN (b := true) 11 rfl rfl rfl) rfl ?_
    refine WL_skip (gdN (b := true) 11 rfl rfl rfl) rfl ?_
    refine WL_skip (gdN (b := true) 11 rfl rfl rfl) rfl ?_
    refine WL_val gd0 ((o_pickT (v := .bool true) rfl rfl rfl) _) rfl ?_
    refine WL_val gd0 ((o_move (v := .bool true) rfl) _) rfl ?_
    refine WL_skip (gdN (b := true) 16 rfl rfl rfl) rfl ?_
    refine WL_skip (gdN (b := true) 16 rfl rfl rfl) rfl ?_
    refine WL_skip (gdN (b := true) 16 rfl rfl rfl) rfl ?_
    refine WL_val gd0 ((o_pickT (v := .bool true) rfl rfl rfl) _) rfl ?_
    refine WL_nil ?_
    refine nrm ?_
    refine WC_cond (t := true) rfl (fun _ => ?_) (fun hx => by rw [(rfl : true = true)] at hx; cases hx)
    refine WC_seq ?_
    refine WC_region ?_
    refine WL_val gd0 ((o_assign (v := .bool false) rfl) _) rfl ?_
    refine WL_nil ?_
    refine nrm ?_
    refine WC_ret ?_
    refine rtT ?_
    refine rtE ?_
    exact gv1 rfl rfl h
  · rw [if_neg (of_decide_eq_false hb20)] at h
    refine WL_val (gdY (b := (decide (x18 < 0))) 6 rfl rfl hb20) ((o_fieldAddr0 Try.underlying26 rfl Try.sizeOf3 rfl rfl rfl) _) rfl ?_
    obtain ⟨x21, hc22, h⟩ := h
    refine WL_val (gdY (b := (decide (x18 < 0))) 6 rfl rfl hb20) (o_load Try.isAgg3 rfl hc22) rfl ?_
    refine WL_val (gdY (b := (decide (x18 < 0))) 6 rfl rfl hb20) ((o_gtr rfl rfl) _) rfl ?_
    refine WL_val gd0 ((o_pickF (v := .bool (decide (1023 < x21))) rfl hb20 rfl) _) rfl ?_
    refine WL_val gd0 ((o_move (v := .bool (decide (1023 < x21))) rfl) _) rfl ?_
    refine bsplit (decide (1023 < x21)) (fun hb23 => ?_) (fun hb23 => ?_)
    · rw [if_pos (of_decide_eq_true hb23)] at h
      refine WL_skip (gdN (b := (decide (1023 < x21))) 11 rfl rfl hb23) rfl ?_
      refine WL_skip (gdN (b := (decide (1023 < x21))) 11 rfl rfl hb23) rfl ?_
      refine WL_skip (gdN (b := (decide (1023 < x21))) 11 rfl rfl hb23) rfl ?_
      refine WL_val gd0 ((o_pickT (v := .bool true) rfl hb23 rfl) _) rfl ?_
      refine WL_val gd0 ((o_move (v := .bool true) rfl) _) rfl ?_
      refine WL_skip (gdN (b := true) 16 rfl rfl rfl) rfl ?_
      refine WL_skip (gdN (b := true) 16 rfl rfl rfl) rfl ?_
      refine WL_skip (gdN (b := true) 16 rfl rfl rfl) rfl ?_
      refine WL_val gd0 ((o_pickT (v := .bool true) rfl rfl rfl) _) rfl ?_
      refine WL_nil ?_
      refine nrm ?_
      refine WC_cond (t := true) rfl (fun _ => ?_) (fun hx => by rw [(rfl : true = true)] at hx; cases hx)
      refine WC_seq ?_
      refine WC_region ?_
      refine WL_val gd0 ((o_assign (v := .bool false) rfl) _) rfl ?_
      refine WL_nil ?_
      refine nrm ?_
      refine WC_ret ?_
      refine rtT ?_
      refine rtE ?_
      exact gv1 rfl rfl h
    · rw [if_neg (of_decide_eq_false hb23)] at h
      refine WL_val (gdY (b := (decide (1023 < x21))) 11 rfl rfl hb23) ((o_fieldAddr 1 Try.underlying26 rfl Try.sizeOf3 rfl rfl rfl) _) rfl ?_
      obtain ⟨x24, hc25, h⟩ := h
      refine WL_val (gdY (b := (decide (1023 < x21))) 11 rfl rfl hb23) (o_load Try.isAgg3 rfl hc25) rfl ?_
      refine WL_val (gdY (b := (decide (1023 < x21))) 11 rfl rfl hb23) ((o_lss rfl rfl) _) rfl ?_
      refine WL_val gd0 ((o_pickF (v := .bool (decide (x24 < 0))) rfl hb23 rfl) _) rfl ?_
      refine WL_val gd0 ((o_move (v := .bool (decide (x24 < 0))) rfl) _) rfl ?_
      refine bsplit (decide (x24 < 0)) (fun hb26 => ?_) (fun hb26 => ?_)
      · rw [if_pos (of_decide_eq_true hb26)] at h
        refine WL_skip (gdN (b := (decide (x24 < 0))) 16 rfl rfl hb26) rfl ?_
        refine WL_skip (gdN (b := (decide (x24 < 0))) 16 rfl rfl hb26) rfl ?_
        refine WL_skip (gdN (b := (decide (x24 < 0))) 16 rfl rfl hb26) rfl ?_
        refine WL_val gd0 ((o_pickT (v := .bool true) rfl hb26 rfl) _) rfl ?_
        refine WL_nil ?_
        refine nrm ?_
        refine WC_cond (t := true) rfl (fun _ => ?_) (fun hx => by rw [(rfl : true = true)] at hx; cases hx)
        refine WC_seq ?_
        refine WC_region ?_
        refine WL_val gd0 ((o_assign (v := .bool false) rfl) _) rfl ?_
        refine WL_nil ?_
        refine nrm ?_
        refine WC_ret ?_
        refine rtT ?_
        refine rtE ?_
        exact gv1 rfl rfl h
      · rw [if_neg (of_decide_eq_false hb26)] at h
        refine WL_val (gdY (b := (decide (x24 < 0))) 16 rfl rfl hb26) ((o_fieldAddr 1 Try.underlying26 rfl Try.sizeOf3 rfl rfl rfl) _) rfl ?_
        obtain ⟨x27, hc28, h⟩ := h
        refine WL_val (gdY (b := (decide (x24 < 0))) 16 rfl rfl hb26) (o_load Try.isAgg3 rfl hc28) rfl ?_
        refine WL_val (gdY (b := (decide (x24 < 0))) 16 rfl rfl hb26) ((o_gtr rfl rfl) _) rfl ?_
        refine WL_val gd0 ((o_pickF (v := .bool (decide (7 < x27))) rfl hb26 rfl) _) rfl ?_
        refine WL_nil ?_
        refine nrm ?_
        refine WC_cond (t := (decide (7 < x27))) rfl (fun hb29 => ?_) (fun hb29 => ?_)
        · rw [if_pos (of_decide_eq_true hb29)] at h
          refine WC_seq ?_
          refine WC_region ?_
          refine WL_val gd0 ((o_assign (v := .bool false) rfl) _) rfl ?_
          refine WL_nil ?_
          refine nrm ?_
          refine WC_ret ?_
          refine rtT ?_
          refine rtE ?_
          exact gv1 rfl rfl h
        · rw [if_neg (of_decide_eq_false hb29)] at h
          refine WC_skip ?_
          refine nrm ?_
          refine WC_seq ?_
          refine WC_seq ?_
          refine WC_region ?_
          refine WL_val gd0 ((o_fieldAddr 2 Try.underlying26 rfl Try.sizeOf3 rfl rfl rfl) _) rfl ?_
          obtain ⟨x30, hc31, h⟩ := h
          refine WL_val gd0 (o_load Try.isAgg3 rfl hc31) rfl ?_
          refine WL_val gd0 ((o_lss rfl rfl) _) rfl ?_
          refine WL_val gd0 ((o_move (v := .bool (decide (x30 < 0))) rfl) _) rfl ?_
          refine bsplit (decide (x30 < 0)) (fun hb32 => ?_) (fun hb32 => ?_)
          · rw [if_pos (of_decide_eq_true hb32)] at h
            refine WL_skip (gdN (b := (decide (x30 < 0))) 24 rfl rfl hb32) rfl ?_
            refine WL_skip (gdN (b := (decide (x30 < 0))) 24 rfl rfl hb32) rfl ?_
            refine WL_skip (gdN (b := (decide (x30 < 0))) 24 rfl rfl hb32) rfl ?_
            refine WL_val gd0 ((o_pickT (v := .bool true) rfl hb32 rfl) _) rfl ?_
            refine WL_val gd0 ((o_move (v := .bool true) rfl) _) rfl ?_
            refine WL_skip (gdN (b := true) 29 rfl rfl rfl) rfl ?_
            refine WL_skip (gdN (b := true) 29 rfl rfl rfl) rfl ?_
            refine WL_skip (gdN (b := true) 29 rfl rfl rfl) rfl ?_
            refine WL_val gd0 ((o_pickT (v := .bool true) rfl rfl rfl) _) rfl ?_
            refine WL_val gd0 ((o_move (v := .bool true) rfl) _) rfl ?_
            refine WL_skip (gdN (b := true) 34 rfl rfl rfl) rfl ?_
            refine WL_skip (gdN (b := true) 34 rfl rfl rfl) rfl ?_
            refine WL_skip (gdN (b := true) 34 rfl rfl rfl) rfl ?_
            refine WL_val gd0 ((o_pickT (v := .bool true) rfl rfl rfl) _) rfl ?_
            refine WL_val gd0 ((o_move (v := .bool true) rfl) _) rfl ?_
            refine WL_skip (gdN (b := true) 39 rfl rfl rfl) rfl ?_
            refine WL_skip (gdN (b := true) 39 rfl rfl rfl) rfl ?_
            refine WL_skip (gdN (b := true) 39 rfl rfl rfl) rfl ?_
            refine WL_val gd0 ((o_pickT (v := .bool true) rfl rfl rfl) _) rfl ?_
            refine WL_val gd0 ((o_move (v := .bool true) rfl) _) rfl ?_
            refine WL_skip (gdN (b := true) 44 rfl rfl rfl) rfl ?_
            refine WL_skip (gdN (b := true) 44 rfl rfl rfl) rfl ?_
            refine WL_skip (gdN (b := true) 44 rfl rfl rfl) rfl ?_
            refine WL_val gd0 ((o_pickT (v := .bool true) rfl rfl rfl) _) rfl ?_
            refine WL_nil ?_
            refine nrm ?_
            refine WC_cond (t := true) rfl (fun _ => ?_) (fun hx => by rw [(rfl : true = true)] at hx; cases hx)
            refine WC_seq ?_
            refine WC_region ?_
            refine WL_val gd0 ((o_assign (v := .bool false) rfl) _) rfl ?_
            refine WL_nil ?_
            refine nrm ?_
            refine WC_ret ?_
            refine rtT ?_
            refine rtE ?_
            exact gv1 rfl rfl h
          · rw [if_neg (of_decide_eq_false hb32)] at h
            refine WL_val (gdY (b := (decide (x30 < 0))) 24 rfl rfl hb32) ((o_fieldAddr 2 Try.underlying26 rfl Try.sizeOf3 rfl rfl rfl) _) rfl ?_
            obtain ⟨x33, hc34, h⟩ := h
            refine WL_val (gdY (b := (decide (x30 < 0))) 24 rfl rfl hb32) (o_load Try.isAgg3 rfl hc34) rfl ?_
            refine WL_val (gdY (b := (decide (x30 < 0))) 24 rfl rfl hb32) ((o_gtr rfl rfl) _) rfl ?_
            refine WL_val gd0 ((o_pickF (v := .bool (decide (255 < x33))) rfl hb32 rfl) _) rfl ?_
            refine WL_val gd0 ((o_move (v := .bool (decide (255 < x33))) rfl) _) rfl ?_
            refine bsplit (decide (255 < x33)) (fun hb35 => ?_) (fun hb35 => ?_)
            · rw [if_pos (of_decide_eq_true hb35)] at h
              refine WL_skip (gdN (b := (decide (255 < x33))) 29 rfl rfl hb35) rfl ?_
              refine WL_skip (gdN (b := (decide (255 < x33))) 29 rfl rfl hb35) rfl ?_
              refine WL_skip (gdN (b := (decide (255 < x33))) 29 rfl rfl hb35) rfl ?_
              refine WL_val gd0 ((o_pickT (v := .bool true) rfl hb35 rfl) _) rfl ?_
              refine WL_val gd0 ((o_move (v := .bool true) rfl) _) rfl ?_
              refine WL_skip (gdN (b := true) 34 rfl rfl rfl) rfl ?_
              refine WL_skip (gdN (b := true) 34 rfl rfl rfl) rfl ?_
              refine WL_skip (gdN (b := true) 34 rfl rfl rfl) rfl ?_
              refine WL_val gd0 ((o_pickT (v := .bool true) rfl rfl rfl) _) rfl ?_
              refine WL_val gd0 ((o_move (v := .bool true) rfl) _) rfl ?_
              refine WL_skip (gdN (b := true) 39 rfl rfl rfl) rfl ?_
              refine WL_skip (gdN (b := true) 39 rfl rfl rfl) rfl ?_
              refine WL_skip (gdN (b := true) 39 rfl rfl rfl) rfl ?_
              refine WL_val gd0 ((o_pickT (v := .bool true) rfl rfl rfl) _) rfl ?_
              refine WL_val gd0 ((o_move (v := .bool true) rfl) _) rfl ?_
              refine WL_skip (gdN (b := true) 44 rfl rfl rfl) rfl ?_
              refine WL_skip (gdN (b := true) 44 rfl rfl rfl) rfl ?_
              refine WL_skip (gdN (b := true) 44 rfl rfl rfl) rfl ?_
              refine WL_val gd0 ((o_pickT (v := .bool true) rfl rfl rfl) _) rfl ?_
              refine WL_nil ?_
              refine nrm ?_
              refine WC_cond (t := true) rfl (fun _ => ?_) (fun hx => by rw [(rfl : true = true)] at hx; cases hx)
              refine WC_seq ?_
              refine WC_region ?_
              refine WL_val gd0 ((o_assign (v := .bool false) rfl) _) rfl ?_
              refine WL_nil ?_
              refine nrm ?_
              refine WC_ret ?_
              refine rtT ?_
              refine rtE ?_
              exact gv1 rfl rfl h
            · rw [if_neg (of_decide_eq_false hb35)] at h
              refine WL_val (gdY (b := (decide (255 < x33))) 29 rfl rfl hb35) ((o_fieldAddr 3 Try.underlying26 rfl Try.sizeOf3 rfl rfl rfl) _) rfl ?_
              obtain ⟨x36, hc37, h⟩ := h
              refine WL_val (gdY (b := (decide (255 < x33))) 29 rfl rfl hb35) (o_load Try.isAgg3 rfl hc37) rfl ?_
              refine WL_val (gdY (b := (decide (255 < x33))) 29 rfl rfl hb35) ((o_lss rfl rfl) _) rfl ?_
              refine WL_val gd0 ((o_pickF (v := .bool (decide (x36 < 0))) rfl hb35 rfl) _) rfl ?_
              refine WL_val gd0 ((o_move (v := .bool (decide (x36 < 0))) rfl) _) rfl ?_
              refine bsplit (decide (x36 < 0)) (fun hb38 => ?_) (fun hb38 => ?_)
              · rw [if_pos (of_decide_eq_true hb38)] at h
                refine WL_skip (gdN (b := (decide (x36 < 0))) 34 rfl rfl hb38) rfl ?_
                refine WL_skip (gdN (b := (decide (x36 < 0))) 34 rfl rfl hb38) rfl ?_
                refine WL_skip (gdN (b := (decide (x36 < 0))) 34 rfl rfl hb38) rfl ?_
                refine WL_val gd0 ((o_pickT (v := .bool true) rfl hb38 rfl) _) rfl ?_
                refine WL_val gd0 ((o_move (v := .bool true) rfl) _) rfl ?_
                refine WL_skip (gdN (b := true) 39 rfl rfl rfl) rfl ?_
                refine WL_skip (gdN (b := true) 39 rfl rfl rfl) rfl ?_
                refine WL_skip (gdN (b := true) 39 rfl rfl rfl) rfl ?_
                refine WL_val gd0 ((o_pickT (v := .bool true) rfl rfl rfl) _) rfl ?_
                refine WL_val gd0 ((o_move (v := .bool true) rfl) _) rfl ?_
                refine WL_skip (gdN (b := true) 44 rfl rfl rfl) rfl ?_
                refine WL_skip (gdN (b := true) 44 rfl rfl rfl) rfl ?_
                refine WL_skip (gdN (b := true) 44 rfl rfl rfl) rfl ?_
                refine WL_val gd0 ((o_pickT (v := .bool true) rfl rfl rfl) _) rfl ?_
                refine WL_nil ?_
                refine nrm ?_
                refine WC_cond (t := true) rfl (fun _ => ?_) (fun hx => by rw [(rfl : true = true)] at hx; cases hx)
                refine WC_seq ?_
                refine WC_region ?_
                refine WL_val gd0 ((o_assign (v := .bool false) rfl) _) rfl ?_
                refine WL_nil ?_
                refine nrm ?_
                refine WC_ret ?_
                refine rtT ?_
                refine rtE ?_
                exact gv1 rfl rfl h
              · rw [if_neg (of_decide_eq_false hb38)] at h
                refine WL_val (gdY (b := (decide (x36 < 0))) 34 rfl rfl hb38) ((o_fieldAddr 3 Try.underlying26 rfl Try.sizeOf3 rfl rfl rfl) _) rfl ?_
                obtain ⟨x39, hc40, h⟩ := h
                refine WL_val (gdY (b := (decide (x36 < 0))) 34 rfl rfl hb38) (o_load Try.isAgg3 rfl hc40) rfl ?_
                refine WL_val (gdY (b := (decide (x36 < 0))) 34 rfl rfl hb38) ((o_gtr rfl rfl) _) rfl ?_
                refine WL_val gd0 ((o_pickF (v := .bool (decide (255 < x39))) rfl hb38 rfl) _) rfl ?_
                refine WL_val gd0 ((o_move (v := .bool (decide (255 < x39))) rfl) _) rfl ?_
                refine bsplit (decide (255 < x39)) (fun hb41 => ?_) (fun hb41 => ?_)
                · rw [if_pos (of_decide_eq_true hb41)] at h
                  refine WL_skip (gdN (b := (decide (255 < x39))) 39 rfl rfl hb41) rfl ?_
                  refine WL_skip (gdN (b := (decide (255 < x39))) 39 rfl rfl hb41) rfl ?_
                  refine WL_skip (gdN (b := (decide (255 < x39))) 39 rfl rfl hb41) rfl ?_
                  refine WL_val gd0 ((o_pickT (v := .bool true) rfl hb41 rfl) _) rfl ?_
                  refine WL_val gd0 ((o_move (v := .bool true) rfl) _) rfl ?_
                  refine WL_skip (gdN (b := true) 44 rfl rfl rfl) rfl ?_
                  refine WL_skip (gdN (b := true) 44 rfl rfl rfl) rfl ?_
                  refine WL_skip (gdN (b := true) 44 rfl rfl rfl) rfl ?_
                  refine WL_val gd0 ((o_pickT (v := .bool true) rfl rfl rfl) _) rfl ?_
                  refine WL_nil ?_
                  refine nrm ?_
                  refine WC_cond (t := true) rfl (fun _ => ?_) (fun hx => by rw [(rfl : true = true)] at hx; cases hx)
                  refine WC_seq ?_
                  refine WC_region ?_
                  refine WL_val gd0 ((o_assign (v := .bool false) rfl) _) rfl ?_
                  refine WL_nil ?_
                  refine nrm ?_
                  refine WC_ret ?_
                  refine rtT ?_
                  refine rtE ?_
                  exact gv1 rfl rfl h
                · rw [if_neg (of_decide_eq_false hb41)] at h
                  refine WL_val (gdY (b := (decide (255 < x39))) 39 rfl rfl hb41) ((o_fieldAddr 4 Try.underlying26 rfl Try.sizeOf3 rfl rfl rfl) _) rfl ?_
                  obtain ⟨x42, hc43, h⟩ := h
                  refine WL_val (gdY (b := (decide (255 < x39))) 39 rfl rfl hb41) (o_load Try.isAgg3 rfl hc43) rfl ?_
                  refine WL_val (gdY (b := (decide (255 < x39))) 39 rfl rfl hb41) ((o_lss rfl rfl) _) rfl ?_
                  refine WL_val gd0 ((o_pickF (v := .bool (decide (x42 < 0))) rfl hb41 rfl) _) rfl ?_
                  refine WL_val gd0 ((o_move (v := .bool (decide (x42 < 0))) rfl) _) rfl ?_
                  refine bsplit (decide (x42 < 0)) (fun hb44 => ?_) (fun hb44 => ?_)
                  · rw [if_pos (of_decide_eq_true hb44)] at h
                    refine WL_skip (gdN (b := (decide (x42 < 0))) 44 rfl rfl hb44) rfl ?_
                    refine WL_skip (gdN (b := (decide (x42 < 0))) 44 rfl rfl hb44) rfl ?_
                    refine WL_skip (gdN (b := (decide (x42 < 0))) 44 rfl rfl hb44) rfl ?_
                    refine WL_val gd0 ((o_pickT (v := .bool true) rfl hb44 rfl) _) rfl ?_
                    refine WL_nil ?_
                    refine nrm ?_
                    refine WC_cond (t := true) rfl (fun _ => ?_) (fun hx => by rw [(rfl : true = true)] at hx; cases hx)
                    refine WC_seq ?_
                    refine WC_region ?_
                    refine WL_val gd0 ((o_assign (v := .bool false) rfl) _) rfl ?_
                    refine WL_nil ?_
                    refine nrm ?_
                    refine WC_ret ?_
                    refine rtT ?_
                    refine rtE ?_
                    exact gv1 rfl rfl h
                  · rw [if_neg (of_decide_eq_false hb44)] at h
                    refine WL_val (gdY (b := (decide (x42 < 0))) 44 rfl rfl hb44) ((o_fieldAddr 4 Try.underlying26 rfl Try.sizeOf3 rfl rfl rfl) _) rfl ?_
                    obtain ⟨x45, hc46, h⟩ := h
                    refine WL_val (gdY (b := (decide (x42 < 0))) 44 rfl rfl hb44) (o_load Try.isAgg3 rfl hc46) rfl ?_
                    refine WL_val (gdY (b := (decide (x42 < 0))) 44 rfl rfl hb44) ((o_gtr rfl rfl) _) rfl ?_
                    refine WL_val gd0 ((o_pickF (v := .bool (decide (2047 < x45))) rfl hb44 rfl) _) rfl ?_
                    refine WL_nil ?_
                    refine nrm ?_
                    refine WC_cond (t := (decide (2047 < x45))) rfl (fun hb47 => ?_) (fun hb47 => ?_)
                    · rw [if_pos (of_decide_eq_true hb47)] at h
                      refine WC_seq ?_
                      refine WC_region ?_
                      refine WL_val gd0 ((o_assign (v := .bool false) rfl) _) rfl ?_
                      refine WL_nil ?_
                      refine nrm ?_
                      refine WC_ret ?_
                      refine rtT ?_
                      refine rtE ?_
                      exact gv1 rfl rfl h
                    · rw [if_neg (of_decide_eq_false hb47)] at h
                      refine WC_skip ?_
                      refine nrm ?_
                      refine WC_seq ?_
                      refine WC_region ?_
                      refine WL_val gd0 ((o_fieldAddr 5 Try.underlying26 rfl Try.sizeOf22 rfl rfl rfl) _) rfl ?_
                      obtain ⟨x_a48, x_n49, x_c50, hc51, h⟩ := h
                      refine WL_val gd0 (o_load Try.isAgg22 rfl hc51) rfl ?_
                      refine WL_val gd0 ((o_len Try.underlying22 rfl) _) rfl ?_
                      refine WL_val gd0 ((o_geq rfl rfl) _) rfl ?_
                      refine WL_val gd0 ((o_move (v := .bool (decide (1 ≤ (x_n49 : Int)))) rfl) _) rfl ?_
                      refine bsplit (decide (1 ≤ (x_n49 : Int))) (fun hb52 => ?_) (fun hb52 => ?_)
                      · rw [if_pos (of_decide_eq_true hb52)] at h
                        refine WL_val (gdY (b := (decide (1 ≤ (x_n49 : Int)))) 53 rfl rfl hb52) ((o_fieldAddr 5 Try.underlying26 rfl Try.sizeOf22 rfl rfl rfl) _) rfl ?_
                        obtain ⟨x_a53, x_n54, x_c55, hc56, h⟩ := h
                        refine WL_val (gdY (b := (decide (1 ≤ (x_n49 : Int)))) 53 rfl rfl hb52) (o_load Try.isAgg22 rfl hc56) rfl ?_
                        refine WL_val (gdY (b := (decide (1 ≤ (x_n49 : Int)))) 53 rfl rfl hb52) ((o_len Try.underlying22 rfl) _) rfl ?_
                        refine WL_val (gdY (b := (decide (1 ≤ (x_n49 : Int)))) 53 rfl rfl hb52) ((o_leq rfl rfl) _) rfl ?_
                        refine WL_val gd0 ((o_pickT (v := .bool (decide ((x_n54 : Int) ≤ 1012))) rfl hb52 rfl) _) rfl ?_
                        refine WL_val gd0 ((o_move (v := .bool (decide ((x_n54 : Int) ≤ 1012))) rfl) _) rfl ?_
                        refine bsplit (decide ((x_n54 : Int) ≤ 1012)) (fun hb57 => ?_) (fun hb57 => ?_)
                        · rw [if_pos (of_decide_eq_true hb57)] at h
                          refine WL_val (gdY (b := (decide ((x_n54 : Int) ≤ 1012))) 59 rfl rfl hb57) ((o_fieldAddr 6 Try.underlying26 rfl Try.sizeOf24 rfl rfl rfl) _) rfl ?_
                          obtain ⟨x58, x59, x60, x61, x62, x63, hc64, h⟩ := h
                          refine WL_val (gdY (b := (decide ((x_n54 : Int) ≤ 1012))) 59 rfl rfl hb57) (o_loadAgg (vs := [.int .i64 x58, .bool x59, .bool x60, .bool x61, .int .i64 x62, .int .i64 x63]) Try.isAgg24 Try.sizeOf24 rfl hc64) rfl ?_
                          refine WL_call (gdY (b := (decide ((x_n54 : Int) ≤ 1012))) 59 rfl rfl hb57) (o_call Try.call28 (argCons rfl argNil) _) rfl (h.mono ?_)
                          rintro _ w65 ⟨x66, rfl, h⟩
                          refine WL_val gd0 ((o_pickT (v := .bool x66) rfl hb57 rfl) _) rfl ?_
                          refine WL_val gd0 ((o_assign (v := .bool x66) rfl) _) rfl ?_
                          refine WL_nil ?_
                          refine nrm ?_
                          refine WC_ret ?_
                          refine rtE ?_
                          exact gv1 rfl rfl h
                        · rw [if_neg (of_decide_eq_false hb57)] at h
                          refine WL_skip (gdN (b := (decide ((x_n54 : Int) ≤ 1012))) 59 rfl rfl hb57) rfl ?_
                          refine WL_skip (gdN (b := (decide ((x_n54 : Int) ≤ 1012))) 59 rfl rfl hb57) rfl ?_
                          refine WL_skip (gdN (b := (decide ((x_n54 : Int) ≤ 1012))) 59 rfl rfl hb57) rfl ?_
                          refine WL_val gd0 ((o_pickF (v := .bool false) rfl hb57 rfl) _) rfl ?_
                          refine WL_val gd0 ((o_assign (v := .bool false) rfl) _) rfl ?_
                          refine WL_nil ?_
                          refine nrm ?_
                          refine WC_ret ?_
                          refine rtE ?_
                          exact gv1 rfl rfl h
                      · rw [if_neg (of_decide_eq_false hb52)] at h
                        refine WL_skip (gdN (b := (decide (1 ≤ (x_n49 : Int)))) 53 rfl rfl hb52) rfl ?_
                        refine WL_skip (gdN (b := (decide (1 ≤ (x_n49 : Int)))) 53 rfl rfl hb52) rfl ?_
                        refine WL_skip (gdN (b := (decide (1 ≤ (x_n49 : Int)))) 53 rfl rfl hb52) rfl ?_
                        refine WL_skip (gdN (b := (decide (1 ≤ (x_n49 : Int)))) 53 rfl rfl hb52) rfl ?_
                        refine WL_val gd0 ((o_pickF (v := .bool false) rfl hb52 rfl) _) rfl ?_
                        refine WL_val gd0 ((o_move (v := .bool false) rfl) _) rfl ?_
                        refine WL_skip (gdN (b := false) 59 rfl rfl rfl) rfl ?_
                        refine WL_skip (gdN (b := false) 59 rfl rfl rfl) rfl ?_
                        refine WL_skip (gdN (b := false) 59 rfl rfl rfl) rfl ?_
                        refine WL_val gd0 ((o_pickF (v := .bool false) rfl rfl rfl) _) rfl ?_
                        refine WL_val gd0 ((o_assign (v := .bool false) rfl) _) rfl ?_
                        refine WL_nil ?_
                        refine nrm ?_
                        refine WC_ret ?_
                        refine rtE ?_
                        exact gv1 rfl rfl h

def F13_j1 (p5 : Addr) (p72 : Addr) (t164 : Bool) (w165 : World) (k : Value → World → Prop) : Prop :=
  if t164 = true then
  PutAll w165 p5 [.int .i64 0, .int .i64 0, .int .i64 0, .int .i64 0, .int .i64 0, .slice none 0 0, .int .i64 0, .bool false, .bool false, .bool false, .int .i64 0, .int .i64 0] (fun w167 => ∃ (r169 r170 r171 r172 r173 : Int) (r_a174 : Option Addr) (r_n175 r_c176 : Nat) (r177 : Int) (r178 r179 r180 : Bool) (r181 r182 : Int), Cells w167 p5 0 [.int .i64 r169, .int .i64 r170, .int .i64 r171, .int .i64 r172, .int .i64 r173, .slice r_a174 r_n175 r_c176, .int .i64 r177, .bool r178, .bool r179, .bool r180, .int .i64 r181, .int .i64 r182] ∧ k (.tuple #[.agg #[.int .i64 r169, .int .i64 r170, .int .i64 r171, .int .i64 r172, .int .i64 r173, .slice r_a174 r_n175 r_c176, .int .i64 r177, .bool r178, .bool r179, .bool r180, .int .i64 r181, .int .i64 r182], .int .i64 4]) w167)
else
  ∃ (x184 x185 x186 x187 x188 : Int) (x_a189 : Option Addr) (x_n190 x_c191 : Nat) (x192 : Int) (x193 x194 x195 : Bool) (x196 x197 : Int), Cells w165 p72 0 [.int .i64 x184, .int .i64 x185, .int .i64 x186, .int .i64 x187, .int .i64 x188, .slice x_a189 x_n190 x_c191, .int .i64 x192, .bool x193, .bool x194, .bool x195, .int .i64 x196, .int .i64 x197] ∧ PutAll w165 p5 [.int .i64 x184, .int .i64 x185, .int .i64 x186, .int .i64 x187, .int .i64 x188, .slice x_a189 x_n190 x_c191, .int .i64 x192, .bool x193, .bool x194, .bool x195, .int .i64 x196, .int .i64 x197] (fun w199 => ∃ (r201 r202 r203 r204 r205 : Int) (r_a206 : Option Addr) (r_n207 r_c208 : Nat) (r209 : Int) (r210 r211 r212 : Bool) (r213 r214 : Int), Cells w199 p5 0 [.int .i64 r201, .int .i64 r202, .int .i64 r203, .int .i64 r204, .int .i64 r205, .slice r_a206 r_n207 r_c208, .int .i64 r209, .bool r210, .bool r211, .bool r212, .int .i64 r213, .int .i64 r214] ∧ k (.tuple #[.agg #[.int .i64 r201, .int .i64 r202, .int .i64 r203, .int .i64 r204, .int .i64 r205, .slice r_a206 r_n207 r_c208, .int .i64 r209, .bool r210, .bool r211, .bool r212, .int .i64 r213, .int .i64 r214], .int .i64 0]) w199)
/-- spacecraft tmframe.Decode -/
def F13 (b_a1 : Option Addr) (b_n2 : Nat) (b_c3 : Nat) (w4 : World) (k : Value → World → Prop) : Prop :=
  New w4 26 [.int .i64 0, .int .i64 0, .int .i64 0, .int .i64 0, .int .i64 0, .slice none 0 0, .int .i64 0, .bool false, .bool false, .bool false, .int .i64 0, .int .i64 0] (fun p5 w6 => if (b_n2 : Int) ≤ 12 then
  PutAll w6 p5 [.int .i64 0, .int .i64 0, .int .i64 0, .int .i64 0, .int .i64 0, .slice none 0 0, .int .i64 0, .bool false, .bool false, .bool false, .int .i64 0, .int .i64 0] (fun w8 => ∃ (r10 r11 r12 r13 r14 : Int) (r_a15 : Option Addr) (r_n16 r_c17 : Nat) (r18 : Int) (r19 r20 r21 : Bool) (r22 r23 : Int), Cells w8 p5 0 [.int .i64 r10, .int .i64 r11, .int .i64 r12, .int .i64 r13, .int .i64 r14, .slice r_a15 r_n16 r_c17, .int .i64 r18, .bool r19, .bool r20, .bool r21, .int .i64 r22, .int .i64 r23] ∧ k (.tuple #[.agg #[.int .i64 r10, .int .i64 r11, .int .i64 r12, .int .i64 r13, .int .i64 r14, .slice r_a15 r_n16 r_c17, .int .i64 r18, .bool r19, .bool r20, .bool r21, .int .i64 r22, .int .i64 r23], .int .i64 3]) w8)
else
  if 1024 < (b_n2 : Int) then
    PutAll w6 p5 [.int .i64 0, .int .i64 0, .int .i64 0, .int .i64 0, .int .i64 0, .slice none 0 0, .int .i64 0, .bool false, .bool false, .bool false, .int .i64 0, .int .i64 0] (fun w26 => ∃ (r28 r29 r30 r31 r32 : Int) (r_a33 : Option Addr) (r_n34 r_c35 : Nat) (r36 : Int) (r37 r38 r39 : Bool) (r40 r41 : Int), Cells w26 p5 0 [.int .i64 r28, .int .i64 r29, .int .i64 r30, .int .i64 r31, .int .i64 r32, .slice r_a33 r_n34 r_c35, .int .i64 r36, .bool r37, .bool r38, .bool r39, .int .i64 r40, .int .i64 r41] ∧ k (.tuple #[.agg #[.int .i64 r28, .int .i64 r29, .int .i64 r30, .int .i64 r31, .int .i64 r32, .slice r_a33 r_n34 r_c35, .int .i64 r36, .bool r37, .bool r38, .bool r39, .int .i64 r40, .int .i64 r41], .int .i64 6]) w26)
  else
    Does Try.prog 29 #[.slice b_a1 b_n2 b_c3] w6 (fun v w43 => ∃ (x44 : Bool), v = .bool x44 ∧ if (!x44) = true then
      PutAll w43 p5 [.int .i64 0, .int .i64 0, .int .i64 0, .int .i64 0, .int .i64 0, .slice none 0 0, .int .i64 0, .bool false, .bool false, .bool false, .int .i64 0, .int .i64 0] (fun w46 => ∃ (r48 r49 r50 r51 r52 : Int) (r_a53 : Option Addr) (r_n54 r_c55 : Nat) (r56 : Int) (r57 r58 r59 : Bool) (r60 r61 : Int), Cells w46 p5 0 [.int .i64 r48, .int .i64 r49, .int .i64 r50, .int .i64 r51, .int .i64 r52, .slice r_a53 r_n54 r_c55, .int .i64 r56, .bool r57, .bool r58, .bool r59, .int .i64 r60, .int .i64 r61] ∧ k (.tuple #[.agg #[.int .i64 r48, .int .i64 r49, .int .i64 r50, .int .i64 r51, .int .i64 r52, .slice r_a53 r_n54 r_c55, .int .i64 r56, .bool r57, .bool r58, .bool r59, .int .i64 r60, .int .i64 r61], .int .i64 5]) w46)
    else
      (0 : Int) ≤ 6 ∧ 6 ≤ (b_c3 : Int) ∧ Does Try.prog 30 #[.slice b_a1 ((6 : Int).toNat) b_c3] w43 (fun v w65 => ∃ (r66 : Option Addr), v = .pointer r66 ∧ Does Try.prog 31 #[.pointer r66, .int .i64 2] w65 (fun v w67 => v = .tuple #[] ∧ Does Try.prog 32 #[.pointer r66, .int .i64 10] w67 (fun v w68 => ∃ (x69 : Int), v = .int .u64 x69 ∧ Does Try.prog 32 #[.pointer r66, .int .i64 3] w68 (fun v w70 => ∃ (x71 : Int), v = .int .u64 x71 ∧ New w70 26 [.int .i64 0, .int .i64 0, .int .i64 0, .int .i64 0, .int .i64 0, .slice none 0 0, .int .i64 0, .bool false, .bool false, .bool false, .int .i64 0, .int .i64 0] (fun p72 w73 => PutAll w73 p72 [.int .i64 (IntKind.i64.wrap x69), .int .i64 (IntKind.i64.wrap x71), .int .i64 0, .int .i64 0, .int .i64 0, .slice none 0 0, .int .i64 0, .bool false, .bool false, .bool false, .int .i64 0, .int .i64 0] (fun w74 => Does Try.prog 31 #[.pointer r66, .int .i64 1] w74 (fun v w76 => v = .tuple #[] ∧ Does Try.prog 32 #[.pointer r66, .int .i64 8] w76 (fun v w77 => ∃ (x78 : Int), v = .int .u64 x78 ∧ Put w77 (p72.add 2) (.int .i64 (IntKind.i64.wrap x78)) (fun w79 => Does Try.prog 32 #[.pointer r66, .int .i64 8] w79 (fun v w81 => ∃ (x82 : Int), v = .int .u64 x82 ∧ Put w81 (p72.add 3) (.int .i64 (IntKind.i64.wrap x82)) (fun w83 => Does Try.prog 31 #[.pointer r66, .int .i64 5] w83 (fun v w85 => v = .tuple #[] ∧ Does Try.prog 32 #[.pointer r66, .int .i64 11] w85 (fun v w86 => ∃ (x87 : Int), v = .int .u64 x87 ∧ Put w86 (p72.add 4) (.int .i64 (IntKind.i64.wrap x87)) (fun w88 => (0 : Int) ≤ 6 ∧ 6 ≤ (IntKind.i64.wrap ((b_n2 : Int) - 6) : Int) ∧ IntKind.i64.wrap ((b_n2 : Int) - 6) ≤ (b_c3 : Int) ∧ Does Try.prog 33 #[.slice (cutA b_a1 b_c3 ((6 : Int).toNat) 1) ((IntKind.i64.wrap ((b_n2 : Int) - 6)).toNat - (6 : Int).toNat) (b_c3 - (6 : Int).toNat)] w88 (fun v w93 => ∃ (x_a94 : Option Addr) (x_n95 x_c96 : Nat), v = .slice x_a94 x_n95 x_c96 ∧ Put w93 (p72.add 5) (.slice x_a94 x_n95 x_c96) (fun w97 => (0 : Int) ≤ IntKind.i64.wrap ((b_n2 : Int) - 6) ∧ IntKind.i64.wrap ((b_n2 : Int) - 6) ≤ (IntKind.i64.wrap ((b_n2 : Int) - 2) : Int) ∧ IntKind.i64.wrap ((b_n2 : Int) - 2) ≤ (b_c3 : Int) ∧ Does Try.prog 34 #[.slice (cutA b_a1 b_c3 ((IntKind.i64.wrap ((b_n2 : Int) - 6)).toNat) 1) ((IntKind.i64.wrap ((b_n2 : Int) - 2)).toNat - (IntKind.i64.wrap ((b_n2 : Int) - 6)).toNat) (b_c3 - (IntKind.i64.wrap ((b_n2 : Int) - 6)).toNat)] w97 (fun v w102 => ∃ (r103 : Int) (r104 r105 r106 : Bool) (r107 r108 r109 : Int), v = .tuple #[.agg #[.int .i64 r103, .bool r104, .bool r105, .bool r106, .int .i64 r107, .int .i64 r108], .int .i64 r109] ∧ New w102 24 [.int .i64 0, .bool false, .bool false, .bool false, .int .i64 0, .int .i64 0] (fun p110 w111 => PutAll w111 p110 [.int .i64 r103, .bool r104, .bool r105, .bool r106, .int .i64 r107, .int .i64 r108] (fun w112 => if r109 ≠ 0 then
        PutAll w112 p5 [.int .i64 0, .int .i64 0, .int .i64 0, .int .i64 0, .int .i64 0, .slice none 0 0, .int .i64 0, .bool false, .bool false, .bool false, .int .i64 0, .int .i64 0] (fun w115 => ∃ (r117 r118 r119 r120 r121 : Int) (r_a122 : Option Addr) (r_n123 r_c124 : Nat) (r125 : Int) (r126 r127 r128 : Bool) (r129 r130 : Int), Cells w115 p5 0 [.int .i64 r117, .int .i64 r118, .int .i64 r119, .int .i64 r120, .int .i64 r121, .slice r_a122 r_n123 r_c124, .int .i64 r125, .bool r126, .bool r127, .bool r128, .int .i64 r129, .int .i64 r130] ∧ k (.tuple #[.agg #[.int .i64 r117, .int .i64 r118, .int .i64 r119, .int .i64 r120, .int .i64 r121, .slice r_a122 r_n123 r_c124, .int .i64 r125, .bool r126, .bool r127, .bool r128, .int .i64 r129, .int .i64 r130], .int .i64 4]) w115)
      else
        ∃ (x132 : Int) (x133 x134 x135 : Bool) (x136 x137 : Int), Cells w112 p110 0 [.int .i64 x132, .bool x133, .bool x134, .bool x135, .int .i64 x136, .int .i64 x137] ∧ PutAll w112 (p72.add 6) [.int .i64 x132, .bool x133, .bool x134, .bool x135, .int .i64 x136, .int .i64 x137] (fun w139 => ∃ (x141 x142 x143 x144 x145 : Int) (x_a146 : Option Addr) (x_n147 x_c148 : Nat) (x149 : Int) (x150 x151 x152 : Bool) (x153 x154 : Int), Cells w139 p72 0 [.int .i64 x141, .int .i64 x142, .int .i64 x143, .int .i64 x144, .int .i64 x145, .slice x_a146 x_n147 x_c148, .int .i64 x149, .bool x150, .bool x151, .bool x152, .int .i64 x153, .int .i64 x154] ∧ Does Try.prog 9 #[.agg #[.int .i64 x141, .int .i64 x142, .int .i64 x143, .int .i64 x144, .int .i64 x145, .slice x_a146 x_n147 x_c148, .int .i64 x149, .bool x150, .bool x151, .bool x152, .int .i64 x153, .int .i64 x154]] w139 (fun v w156 => ∃ (r_a157 : Option Addr) (r_n158 r_c159 : Nat) (r160 : Int), v = .tuple #[.slice r_a157 r_n158 r_c159, .int .i64 r160] ∧ if r160 ≠ 0 then
          F13_j1 p5 p72 true w156 k
        else
          Does Try.prog 35 #[.slice r_a157 r_n158 r_c159, .slice b_a1 b_n2 b_c3] w156 (fun v w217 => ∃ (x218 : Bool), v = .bool x218 ∧ F13_j1 p5 p72 (!x218) w217 k))))))))))))))))))))))))
set_option maxRecDepth 100000 in
set_option maxHeartbeats 2000000 in
theorem w13 (b_a1 : Option Addr) (b_n2 : Nat) (b_c3 : Nat) (w4 : World) (k : Value → World → Prop) (h : F13 b_a1 b_n2 b_c3 w4 k) : Does Try.prog 13 #[.slice b_a1 b_n2 b_c3] w4 k := by
  refine enter 92 Try.func13 rfl rfl rfl ?_
  intro ρ hρ
  have e0 := hρ 0 _ rfl
  unfold F13 at h
  refine WC_seq ?_
  refine WC_region ?_
  have h := New.out h
  refine WL_val gd0 (o_alloc (z := .agg #[.int .i64 0, .int .i64 0, .int .i64 0, .int .i64 0, .int .i64 0, .slice none 0 0, .int .i64 0, .bool false, .bool false, .bool false, .int .i64 0, .int .i64 0]) (cs := [.int .i64 0, .int .i64 0, .int .i64 0, .int .i64 0, .int .i64 0, .slice none 0 0, .int .i64 0, .bool false, .bool false, .bool false, .int .i64 0, .int .i64 0]) Try.zeroValue26 rfl) rfl ?_
  generalize hp5 : fresh w4 = p5 at h ⊢
  generalize hw6 : push w4 26 [.int .i64 0, .int .i64 0, .int .i64 0, .int .i64 0, .int .i64 0, .slice none 0 0, .int .i64 0, .bool false, .bool false, .bool false, .int .i64 0, .int .i64 0] = w6 at h ⊢
  try dsimp only at h
  refine WL_val gd0 ((o_assign (v := .int .i64 0) rfl) _) rfl ?_
  refine WL_nil ?_
  refine nrm ?_
  refine WC_seq ?_
  refine WC_block ?_
  refine WC_seq ?_
  refine WC_region ?_
  refine WL_val gd0 ((o_move (v := .slice b_a1 b_n2 b_c3) (by exact e0)) _) rfl ?_
  refine WL_val gd0 ((o_len Try.underlying22 rfl) _) rfl ?_
  refine WL_val gd0 ((o_leq rfl rfl) _) rfl ?_
  refine WL_val gd0 ((o_assign (v := .bool (decide ((b_n2 : Int) ≤ 12))) rfl) _) rfl ?_
  refine WL_nil ?_
  refine nrm ?_
  refine WC_cond (t := (decide ((b_n2 : Int) ≤ 12))) rfl (fun hb7 => ?_) (fun hb7 => ?_)
  · rw [if_pos (of_decide_eq_true hb7)] at h
    refine WC_seq ?_
    refine WC_region ?_
    refine WL_val gd0 ((o_build (ps := []) (v := .agg #[.int .i64 0, .int .i64 0, .int .i64 0, .int .i64 0, .int .i64 0, .slice none 0 0, .int .i64 0, .bool false, .bool false, .bool false, .int .i64 0, .int .i64 0]) partNil (fun w => by kernel_rfl)) _) rfl ?_
    obtain ⟨c9, h⟩ := h
    refine WL_act gd0 (o_storeAgg (vs := [.int .i64 0, .int .i64 0, .int .i64 0, .int .i64 0, .int .i64 0, .slice none 0 0, .int .i64 0, .bool false, .bool false, .bool false, .int .i64 0, .int .i64 0]) Try.sizeOf26 rfl rfl rfl c9) ?_
    generalize hw8 : setAll w6 p5 0 [.int .i64 0, .int .i64 0, .int .i64 0, .int .i64 0, .int .i64 0, .slice none 0 0, .int .i64 0, .bool false, .bool false, .bool false, .int .i64 0, .int .i64 0] = w8 at h ⊢
    try dsimp only at h
    refine WL_val gd0 ((o_assign (v := .int .i64 3) rfl) _) rfl ?_
    refine WL_nil ?_
    refine nrm ?_
    refine WC_ret ?_
    refine rtB ?_
    refine rtT ?_
    refine rtE ?_
    obtain ⟨r10, r11, r12, r13, r14, r_a15, r_n16, r_c17, r18, r19, r20, r21, r22, r23, hc24, h⟩ := h
    exact gvC1 (vs := [.int .i64 r10, .int .i64 r11, .int .i64 r12, .int .i64 r13, .int .i64 r14, .slice r_a15 r_n16 r_c17, .int .i64 r18, .bool r19, .bool r20, .bool r21, .int .i64 r22, .int .i64 r23]) rfl Try.isAgg26 Try.sizeOf26 rfl hc24 rfl h
  · rw [if_neg (of_decide_eq_false hb7)] at h
    refine WC_seq ?_
    refine WC_region ?_
    refine WL_val gd0 ((o_move (v := .slice b_a1 b_n2 b_c3) (by exact e0)) _) rfl ?_
    refine WL_val gd0 ((o_len Try.underlying22 rfl) _) rfl ?_
    refine WL_val gd0 ((o_gtr rfl rfl) _) rfl ?_
    refine WL_val gd0 ((o_assign (v := .bool (decide (1024 < (b_n2 : Int)))) rfl) _) rfl ?_
    refine WL_nil ?_
    refine nrm ?_
    refine WC_cond (t := (decide (1024 < (b_n2 : Int)))) rfl (fun hb25 => ?_) (fun hb25 => ?_)
    · rw [if_pos (of_decide_eq_true hb25)] at h
      refine WC_seq ?_
      refine WC_region ?_
      refine WL_val gd0 ((o_build (ps := []) (v := .agg #[.int .i64 0, .int .i64 0, .int .i64 0, .int .i64 0, .int .i64 0, .slice none 0 0, .int .i64 0, .bool false, .bool false, .bool false, .int .i64 0, .int .i64 0]) partNil (fun w => by kernel_rfl)) _) rfl ?_
      obtain ⟨c27, h⟩ := h
      refine WL_act gd0 (o_storeAgg (vs := [.int .i64 0, .int .i64 0, .int .i64 0, .int .i64 0, .int .i64 0, .slice none 0 0, .int .i64 0, .bool false, .bool false, .bool false, .int .i64 0, .int .i64 0]) Try.sizeOf26 rfl rfl rfl c27) ?_
      generalize hw26 : setAll w6 p5 0 [.int .i64 0, .int .i64 0, .int .i64 0, .int .i64 0, .int .i64 0, .slice none 0 0, .int .i64 0, .bool false, .bool false, .bool false, .int .i64 0, .int .i64 0] = w26 at h ⊢
      try dsimp only at h
      refine WL_val gd0 ((o_assign (v := .int .i64 6) rfl) _) rfl ?_
      refine WL_nil ?_
      refine nrm ?_
      refine WC_ret ?_
      refine rtB ?_
      refine rtT ?_
      refine rtE ?_
      obtain ⟨r28, r29, r30, r31, r32, r_a33, r_n34, r_c35, r36, r37, r38, r39, r40, r41, hc42, h⟩ := h
      exact gvC1 (vs := [.int .i64 r28, .int .i64 r29, .int .i64 r30, .int .i64 r31, .int .i64 r32, .slice r_a33 r_n34 r_c35, .int .i64 r36, .bool r37, .bool r38, .bool r39, .int .i64 r40, .int .i64 r41]) rfl Try.isAgg26 Try.sizeOf26 rfl hc42 rfl h
    · rw [if_neg (of_decide_eq_false hb25)] at h
      refine WC_seq ?_
      refine WC_region ?_
      refine WL_val gd0 ((o_move (v := .slice b_a1 b_n2 b_c3) (by exact e0)) _) rfl ?_
      refine WL_call gd0 (o_call Try.call29 (argCons rfl argNil) _) rfl (h.mono ?_)
      rintro _ w43 ⟨x44, rfl, h⟩
      refine WL_val gd0 ((o_not rfl) _) rfl ?_
      refine WL_val gd0 ((o_assign (v := .bool (!x44)) rfl) _) rfl ?_
      refine WL_nil ?_
      refine nrm ?_
      refine WC_cond (t := (!x44)) rfl (fun hb45 => ?_) (fun hb45 => ?_)
      · rw [if_pos hb45] at h
        refine WC_seq ?_
        refine WC_region ?_
        refine WL_val gd0 ((o_build (ps := []) (v := .agg #[.int .i64 0, .int .i64 0, .int .i64 0, .int .i64 0, .int .i64 0, .slice none 0 0, .int .i64 0, .bool false, .bool false, .bool false, .int .i64 0, .int .i64 0]) partNil (fun w => by kernel_rfl)) _) rfl ?_
        obtain ⟨c47, h⟩ := h
        refine WL_act gd0 (o_storeAgg (vs := [.int .i64 0, .int .i64 0, .int .i64 0, .int .i64 0, .int .i64 0, .slice none 0 0, .int .i64 0, .bool false, .bool false, .bool false, .int .i64 0, .int .i64 0]) Try.sizeOf26 rfl rfl rfl c47) ?_
        generalize hw46 : setAll w43 p5 0 [.int .i64 0, .int .i64 0, .int .i64 0, .int .i64 0, .int .i64 0, .slice none 0 0, .int .i64 0, .bool false, .bool false, .bool false, .int .i64 0, .int .i64 0] = w46 at h ⊢
        try dsimp only at h
        refine WL_val gd0 ((o_assign (v := .int .i64 5) rfl) _) rfl ?_
        refine WL_nil ?_
        refine nrm ?_
        refine WC_ret ?_
        refine rtB ?_
        refine rtT ?_
        refine rtE ?_
        obtain ⟨r48, r49, r50, r51, r52, r_a53, r_n54, r_c55, r56, r57, r58, r59, r60, r61, hc62, h⟩ := h
        exact gvC1 (vs := [.int .i64 r48, .int .i64 r49, .int .i64 r50, .int .i64 r51, .int .i64 r52, .slice r_a53 r_n54 r_c55, .int .i64 r56, .bool r57, .bool r58, .bool r59, .int .i64 r60, .int .i64 r61]) rfl Try.isAgg26 Try.sizeOf26 rfl hc62 rfl h
      · rw [if_neg (neT hb45)] at h
        refine WC_skip ?_
        refine nrmB ?_
        refine nrm ?_
        refine WC_seq ?_
        refine WC_region ?_
        refine WL_val gd0 ((o_move (v := .slice b_a1 b_n2 b_c3) (by exact e0)) _) rfl ?_
        obtain ⟨c63, c64, h⟩ := h
        refine WL_val gd0 ((o_sliceH Try.underlying22 Try.sizeOf5 rfl rfl c63 c64) _) rfl ?_
        refine WL_call gd0 (o_call Try.call30 (argCons rfl argNil) _) rfl (h.mono ?_)
        rintro _ w65 ⟨r66, rfl, h⟩
        refine WL_val gd0 ((o_assign (v := .pointer r66) rfl) _) rfl ?_
        refine WL_nil ?_
        refine nrm ?_
        refine WC_seq ?_
        refine WC_region ?_
        refine WL_val gd0 ((o_move (v := .pointer r66) rfl) _) rfl ?_
        refine WL_call gd0 (o_call Try.call31 (argCons rfl (argCons rfl argNil)) _) rfl (h.mono ?_)
        rintro _ w67 ⟨rfl, h⟩
        refine WL_nil ?_
        refine nrm ?_
        refine WC_seq ?_
        refine WC_region ?_
        refine WL_val gd0 ((o_move (v := .pointer r66) rfl) _) rfl ?_
        refine WL_call gd0 (o_call Try.call32 (argCons rfl (argCons rfl argNil)) _) rfl (h.mono ?_)
        rintro _ w68 ⟨x69, rfl, h⟩
        refine WL_val gd0 ((o_conv Try.underlying41 Try.underlying3 rfl) _) rfl ?_
        refine WL_val gd0 ((o_move (v := .pointer r66) rfl) _) rfl ?_
        refine WL_call gd0 (o_call Try.call32 (argCons rfl (argCons rfl argNil)) _) rfl (h.mono ?_)
        rintro _ w70 ⟨x71, rfl, h⟩
        refine WL_val gd0 ((o_conv Try.underlying41 Try.underlying3 rfl) _) rfl ?_
        refine WL_val gd0 ((o_build (ps := [(0, .int .i64 (IntKind.i64.wrap x69)), (1, .int .i64 (IntKind.i64.wrap x71))]) (v := .agg #[.int .i64 (IntKind.i64.wrap x69), .int .i64 (IntKind.i64.wrap x71), .int .i64 0, .int .i64 0, .int .i64 0, .slice none 0 0, .int .i64 0, .bool false, .bool false, .bool false, .int .i64 0, .int .i64 0]) (partCons rfl (partCons rfl partNil)) (fun w => by kernel_rfl)) _) rfl ?_
        have h := New.out h
        refine WL_val gd0 (o_alloc (z := .agg #[.int .i64 0, .int .i64 0, .int .i64 0, .int .i64 0, .int .i64 0, .slice none 0 0, .int .i64 0, .bool false, .bool false, .bool false, .int .i64 0, .int .i64 0]) (cs := [.int .i64 0, .int .i64 0, .int .i64 0, .int .i64 0, .int .i64 0, .slice none 0 0, .int .i64 0, .bool false, .bool false, .bool false, .int .i64 0, .int .i64 0]) Try.zeroValue26 rfl) rfl ?_
        generalize hp72 : fresh w70 = p72 at h ⊢
        generalize hw73 : push w70 26 [.int .i64 0, .int .i64 0, .int .i64 0, .int .i64 0, .int .i64 0, .slice none 0 0, .int .i64 0, .bool false, .bool false, .bool false, .int .i64 0, .int .i64 0] = w73 at h ⊢
        try dsimp only at h
        obtain ⟨c75, h⟩ := h
        refine WL_act gd0 (o_storeAgg (vs := [.int .i64 (IntKind.i64.wrap x69), .int .i64 (IntKind.i64.wrap x71), .int .i64 0, .int .i64 0, .int .i64 0, .slice none 0 0, .int .i64 0, .bool false, .bool false, .bool false, .int .i64 0, .int .i64 0]) Try.sizeOf26 rfl rfl rfl c75) ?_
        generalize hw74 : setAll w73 p72 0 [.int .i64 (IntKind.i64.wrap x69), .int .i64 (IntKind.i64.wrap x71), .int .i64 0, .int .i64 0, .int .i64 0, .slice none 0 0, .int .i64 0, .bool false, .bool false, .bool false, .int .i64 0, .int .i64 0] = w74 at h ⊢
        try dsimp only at h
        refine WL_nil ?_
        refine nrm ?_
        refine WC_seq ?_
        refine WC_region ?_
        refine WL_val gd0 ((o_move (v := .pointer r66) rfl) _) rfl ?_
        refine WL_call gd0 (o_call Try.call31 (argCons rfl (argCons rfl argNil)) _) rfl (h.mono ?_)
        rintro _ w76 ⟨rfl, h⟩
        refine WL_nil ?_
        refine nrm ?_
        refine WC_seq ?_
        refine WC_region ?_
        refine WL_val gd0 ((o_move (v := .pointer r66) rfl) _) rfl ?_
        refine WL_call gd0 (o_call Try.call32 (argCons rfl (argCons rfl argNil)) _) rfl (h.mono ?_)
        rintro _ w77 ⟨x78, rfl, h⟩
        refine WL_val gd0 ((o_conv Try.underlying41 Try.underlying3 rfl) _) rfl ?_
        refine WL_val gd0 ((o_fieldAddr 2 Try.underlying26 rfl Try.sizeOf3 rfl rfl rfl) _) rfl ?_
        obtain ⟨c80, h⟩ := h
        refine WL_act gd0 (o_store (v := .int .i64 (IntKind.i64.wrap x78)) Try.sizeOf3 rfl rfl rfl c80) ?_
        generalize hw79 : World.setCell w77 (p72.add 2) (.int .i64 (IntKind.i64.wrap x78)) = w79 at h ⊢
        try dsimp only at h
        refine WL_nil ?_
        refine nrm ?_
        refine WC_seq ?_
        refine WC_region ?_
        refine WL_val gd0 ((o_move (v := .pointer r66) rfl) _) rfl ?_
        refine WL_call gd0 (o_call Try.call32 (argCons rfl (argCons rfl argNil)) _) rfl (h.mono ?_)
        rintro _ w81 ⟨x82, rfl, h⟩
        refine WL_val gd0 ((o_conv Try.underlying41 Try.underlying3 rfl) _) rfl ?_
        refine WL_val gd0 ((o_fieldAddr 3 Try.underlying26 rfl Try.sizeOf3 rfl rfl rfl) _) rfl ?_
        obtain ⟨c84, h⟩ := h
        refine WL_act gd0 (o_store (v := .int .i64 (IntKind.i64.wrap x82)) Try.sizeOf3 rfl rfl rfl c84) ?_
        generalize hw83 : World.setCell w81 (p72.add 3) (.int .i64 (IntKind.i64.wrap x82)) = w83 at h ⊢
        try dsimp only at h
        refine WL_nil ?_
        refine nrm ?_
        refine WC_seq ?_
        refine WC_region ?_
        refine WL_val gd0 ((o_move (v := .pointer r66) rfl) _) rfl ?_
        refine WL_call gd0 (o_call Try.call31 (argCons rfl (argCons rfl argNil)) _) rfl (h.mono ?_)
        rintro _ w85 ⟨rfl, h⟩
        refine WL_nil ?_
        refine nrm ?_
        refine WC_seq ?_
        refine WC_region ?_
        refine WL_val gd0 ((o_move (v := .pointer r66) rfl) _) rfl ?_
        refine WL_call gd0 (o_call Try.call32 (argCons rfl (argCons rfl argNil)) _) rfl (h.mono ?_)
        rintro _ w86 ⟨x87, rfl, h⟩
        refine WL_val gd0 ((o_conv Try.underlying41 Try.underlying3 rfl) _) rfl ?_
        refine WL_val gd0 ((o_fieldAddr 4 Try.underlying26 rfl Try.sizeOf3 rfl rfl rfl) _) rfl ?_
        obtain ⟨c89, h⟩ := h
        refine WL_act gd0 (o_store (v := .int .i64 (IntKind.i64.wrap x87)) Try.sizeOf3 rfl rfl rfl c89) ?_
        generalize hw88 : World.setCell w86 (p72.add 4) (.int .i64 (IntKind.i64.wrap x87)) = w88 at h ⊢
        try dsimp only at h
        refine WL_nil ?_
        refine nrm ?_
        refine WC_seq ?_
        refine WC_region ?_
        refine WL_val gd0 ((o_move (v := .slice b_a1 b_n2 b_c3) (by exact e0)) _) rfl ?_
        refine WL_val gd0 ((o_move (v := .slice b_a1 b_n2 b_c3) (by exact e0)) _) rfl ?_
        refine WL_val gd0 ((o_len Try.underlying22 rfl) _) rfl ?_
        refine WL_val gd0 ((o_sub rfl rfl) _) rfl ?_
        obtain ⟨c90, c91, c92, h⟩ := h
        refine WL_val gd0 ((o_sliceLH Try.underlying22 Try.sizeOf5 rfl rfl rfl c90 c91 c92) _) rfl ?_
        refine WL_call gd0 (o_call Try.call33 (argCons rfl argNil) _) rfl (h.mono ?_)
        rintro _ w93 ⟨x_a94, x_n95, x_c96, rfl, h⟩
        refine WL_val gd0 ((o_fieldAddr 5 Try.underlying26 rfl Try.sizeOf22 rfl rfl rfl) _) rfl ?_
        obtain ⟨c98, h⟩ := h
        refine WL_act gd0 (o_store (v := .slice x_a94 x_n95 x_c96) Try.sizeOf22 rfl rfl rfl c98) ?_
        generalize hw97 : World.setCell w93 (p72.add 5) (.slice x_a94 x_n95 x_c96) = w97 at h ⊢
        try dsimp only at h
        refine WL_nil ?_
        refine nrm ?_
        refine WC_seq ?_
        refine WC_region ?_
        refine WL_val gd0 ((o_move (v := .slice b_a1 b_n2 b_c3) (by exact e0)) _) rfl ?_
        refine WL_val gd0 ((o_move (v := .slice b_a1 b_n2 b_c3) (by exact e0)) _) rfl ?_
        refine WL_val gd0 ((o_len Try.underlying22 rfl) _) rfl ?_
        refine WL_val gd0 ((o_sub rfl rfl) _) rfl ?_
        refine WL_val gd0 ((o_move (v := .slice b_a1 b_n2 b_c3) (by exact e0)) _) rfl ?_
        refine WL_val gd0 ((o_len Try.underlying22 rfl) _) rfl ?_
        refine WL_val gd0 ((o_sub rfl rfl) _) rfl ?_
        obtain ⟨c99, c100, c101, h⟩ := h
        refine WL_val gd0 ((o_sliceLH Try.underlying22 Try.sizeOf5 rfl rfl rfl c99 c100 c101) _) rfl ?_
        refine WL_call gd0 (o_call Try.call34 (argCons rfl argNil) _) rfl (h.mono ?_)
        rintro _ w102 ⟨r103, r104, r105, r106, r107, r108, r109, rfl, h⟩
        refine WL_val gd0 ((o_move (v := .tuple #[.agg #[.int .i64 r103, .bool r104, .bool r105, .bool r106, .int .i64 r107, .int .i64 r108], .int .i64 r109]) rfl) _) rfl ?_
        refine WL_val gd0 ((o_extract (vs := [.agg #[.int .i64 r103, .bool r104, .bool r105, .bool r106, .int .i64 r107, .int .i64 r108], .int .i64 r109]) (r := .agg #[.int .i64 r103, .bool r104, .bool r105, .bool r106, .int .i64 r107, .int .i64 r108]) rfl rfl) _) rfl ?_
        refine WL_val gd0 ((o_extract (vs := [.agg #[.int .i64 r103, .bool r104, .bool r105, .bool r106, .int .i64 r107, .int .i64 r108], .int .i64 r109]) (r := .int .i64 r109) rfl rfl) _) rfl ?_
        have h := New.out h
        refine WL_val gd0 (o_alloc (z := .agg #[.int .i64 0, .bool false, .bool false, .bool false, .int .i64 0, .int .i64 0]) (cs := [.int .i64 0, .bool false, .bool false, .bool false, .int .i64 0, .int .i64 0]) Try.zeroValue24 rfl) rfl ?_
        generalize hp110 : fresh w102 = p110 at h ⊢
        generalize hw111 : push w102 24 [.int .i64 0, .bool false, .bool false, .bool false, .int .i64 0, .int .i64 0] = w111 at h ⊢
        try dsimp only at h
        obtain ⟨c113, h⟩ := h
        refine WL_act gd0 (o_storeAgg (vs := [.int .i64 r103, .bool r104, .bool r105, .bool r106, .int .i64 r107, .int .i64 r108]) Try.sizeOf24 rfl rfl rfl c113) ?_
        generalize hw112 : setAll w111 p110 0 [.int .i64 r103, .bool r104, .bool r105, .bool r106, .int .i64 r107, .int .i64 r108] = w112 at h ⊢
        try dsimp only at h
        refine WL_val gd0 ((o_assign (v := .int .i64 r109) rfl) _) rfl ?_
        refine WL_nil ?_
        refine nrm ?_
        refine WC_seq ?_
        refine WC_seq ?_
        refine WC_region ?_
        refine WL_val gd0 ((o_move (v := .int .i64 r109) rfl) _) rfl ?_
        refine WL_val gd0 ((o_neq rfl rfl) _) rfl ?_
        refine WL_nil ?_
        refine nrm ?_
        refine WC_cond (t := (decide (r109 ≠ 0))) rfl (fun hb114 => ?_) (fun hb114 => ?_)
        · rw [if_pos (of_decide_eq_true hb114)] at h
          refine WC_seq ?_
          refine WC_region ?_
          refine WL_val gd0 ((o_build (ps := []) (v := .agg #[.int .i64 0, .int .i64 0, .int .i64 0, .int .i64 0, .int .i64 0, .slice none 0 0, .int .i64 0, .bool false, .bool false, .bool false, .int .i64 0, .int .i64 0]) partNil (fun w => by kernel_rfl)) _) rfl ?_
          obtain ⟨c116, h⟩ := h
          refine WL_act gd0 (o_storeAgg (vs := [.int .i64 0, .int .i64 0, .int .i64 0, .int .i64 0, .int .i64 0, .slice none 0 0, .int .i64 0, .bool false, .bool false, .bool false, .int .i64 0, .int .i64 0]) Try.sizeOf26 rfl rfl rfl c116) ?_
          generalize hw115 : setAll w112 p5 0 [.int .i64 0, .int .i64 0, .int .i64 0, .int .i64 0, .int .i64 0, .slice none 0 0, .int .i64 0, .bool false, .bool false, .bool false, .int .i64 0, .int .i64 0] = w115 at h ⊢
          try dsimp only at h
          refine WL_val gd0 ((o_assign (v := .int .i64 4) rfl) _) rfl ?_
          refine WL_nil ?_
          refine nrm ?_
          refine WC_ret ?_
          refine rtT ?_
          refine rtE ?_
          obtain ⟨r117, r118, r119, r120, r121, r_a122, r_n123, r_c124, r125, r126, r127, r128, r129, r130, hc131, h⟩ := h
          exact gvC1 (vs := [.int .i64 r117, .int .i64 r118, .int .i64 r119, .int .i64 r120, .int .i64 r121, .slice r_a122 r_n123 r_c124, .int .i64 r125, .bool r126, .bool r127, .bool r128, .int .i64 r129, .int .i64 r130]) rfl Try.isAgg26 Try.sizeOf26 rfl hc131 rfl h
        · rw [if_neg (of_decide_eq_false hb114)] at h
          refine WC_skip ?_
          refine nrm ?_
          refine WC_seq ?_
          refine WC_region ?_
          obtain ⟨x132, x133, x134, x135, x136, x137, hc138, h⟩ := h
          refine WL_val gd0 (o_loadAgg (vs := [.int .i64 x132, .bool x133, .bool x134, .bool x135, .int .i64 x136, .int .i64 x137]) Try.isAgg24 Try.sizeOf24 rfl hc138) rfl ?_
          refine WL_val gd0 ((o_fieldAddr 6 Try.underlying26 rfl Try.sizeOf24 rfl rfl rfl) _) rfl ?_
          obtain ⟨c140, h⟩ := h
          refine WL_act gd0 (o_storeAgg (vs := [.int .i64 x132, .bool x133, .bool x134, .bool x135, .int .i64 x136, .int .i64 x137]) Try.sizeOf24 rfl rfl rfl c140) ?_
          generalize hw139 : setAll w112 (p72.add 6) 0 [.int .i64 x132, .bool x133, .bool x134, .bool x135, .int .i64 x136, .int .i64 x137] = w139 at h ⊢
          try dsimp only at h
          refine WL_nil ?_
          refine nrm ?_
          refine WC_seq ?_
          refine WC_seq ?_
          refine WC_region ?_
          obtain ⟨x141, x142, x143, x144, x145, x_a146, x_n147, x_c148, x149, x150, x151, x152, x153, x154, hc155, h⟩ := h
          refine WL_val gd0 (o_loadAgg (vs := [.int .i64 x141, .int .i64 x142, .int .i64 x143, .int .i64 x144, .int .i64 x145, .slice x_a146 x_n147 x_c148, .int .i64 x149, .bool x150, .bool x151, .bool x152, .int .i64 x153, .int .i64 x154]) Try.isAgg26 Try.sizeOf26 rfl hc155) rfl ?_
          refine WL_call gd0 (o_call Try.call9 (argCons rfl argNil) _) rfl (h.mono ?_)
          rintro _ w156 ⟨r_a157, r_n158, r_c159, r160, rfl, h⟩
          refine WL_val gd0 ((o_move (v := .tuple #[.slice r_a157 r_n158 r_c159, .int .i64 r160]) rfl) _) rfl ?_
          refine WL_val gd0 ((o_extract (vs := [.slice r_a157 r_n158 r_c159, .int .i64 r160]) (r := .slice r_a157 r_n158 r_c159) rfl rfl) _) rfl ?_
          refine WL_val gd0 ((o_extract (vs := [.slice r_a157 r_n158 r_c159, .int .i64 r160]) (r := .int .i64 r160) rfl rfl) _) rfl ?_
          refine WL_val gd0 ((o_assign (v := .slice r_a157 r_n158 r_c159) rfl) _) rfl ?_
          refine WL_val gd0 ((o_assign (v := .int .i64 r160) rfl) _) rfl ?_
          refine WL_nil ?_
          refine nrm ?_
          refine WC_cut (fun ρ w' => ∃ (t164 : Bool), ρ 89 = .bool t164 ∧ ρ 2 = .pointer (some p5) ∧ ρ 5 = .pointer (some p72) ∧ F13_j1 p5 p72 t164 w' k) ?_ ?_
          · refine WC_region ?_
            refine WL_val gd0 ((o_move (v := .int .i64 r160) rfl) _) rfl ?_
            refine WL_val gd0 ((o_neq rfl rfl) _) rfl ?_
            refine WL_val gd0 ((o_move (v := .bool (decide (r160 ≠ 0))) rfl) _) rfl ?_
            refine bsplit (decide (r160 ≠ 0)) (fun hb216 => ?_) (fun hb216 => ?_)
            · rw [if_pos (of_decide_eq_true hb216)] at h
              refine WL_skip (gdN (b := (decide (r160 ≠ 0))) 84 rfl rfl hb216) rfl ?_
              refine WL_skip (gdN (b := (decide (r160 ≠ 0))) 84 rfl rfl hb216) rfl ?_
              refine WL_skip (gdN (b := (decide (r160 ≠ 0))) 84 rfl rfl hb216) rfl ?_
              refine WL_skip (gdN (b := (decide (r160 ≠ 0))) 84 rfl rfl hb216) rfl ?_
              refine WL_val gd0 ((o_pickT (v := .bool true) rfl hb216 rfl) _) rfl ?_
              refine WL_nil ?_
              refine nrm ?_
              exact ⟨_, rfl, rfl, rfl, h⟩
            · rw [if_neg (of_decide_eq_false hb216)] at h
              refine WL_val (gdY (b := (decide (r160 ≠ 0))) 84 rfl rfl hb216) ((o_move (v := .slice r_a157 r_n158 r_c159) rfl) _) rfl ?_
              refine WL_val (gdY (b := (decide (r160 ≠ 0))) 84 rfl rfl hb216) ((o_move (v := .slice b_a1 b_n2 b_c3) (by exact e0)) _) rfl ?_
              refine WL_call (gdY (b := (decide (r160 ≠ 0))) 84 rfl rfl hb216) (o_call Try.call35 (argCons rfl (argCons rfl argNil)) _) rfl (h.mono ?_)
              rintro _ w217 ⟨x218, rfl, h⟩
              refine WL_val (gdY (b := (decide (r160 ≠ 0))) 84 rfl rfl hb216) ((o_not rfl) _) rfl ?_
              refine WL_val gd0 ((o_pickF (v := .bool (!x218)) rfl hb216 rfl) _) rfl ?_
              refine WL_nil ?_
              refine nrm ?_
              exact ⟨_, rfl, rfl, rfl, h⟩
          · rintro ρ w165 ⟨t164, e89_163, e2_161, e5_162, h⟩
            unfold F13_j1 at h
            refine WC_cond (t := t164) (by exact e89_163) (fun hb166 => ?_) (fun hb166 => ?_)
            · rw [if_pos hb166] at h
              refine WC_seq ?_
              refine WC_region ?_
              refine WL_val gd0 ((o_build (ps := []) (v := .agg #[.int .i64 0, .int .i64 0, .int .i64 0, .int .i64 0, .int .i64 0, .slice none 0 0, .int .i64 0, .bool false, .bool false, .bool false, .int .i64 0, .int .i64 0]) partNil (fun w => by kernel_rfl)) _) rfl ?_
              obtain ⟨c168, h⟩ := h
              refine WL_act gd0 (o_storeAgg (vs := [.int .i64 0, .int .i64 0, .int .i64 0, .int .i64 0, .int .i64 0, .slice none 0 0, .int .i64 0, .bool false, .bool false, .bool false, .int .i64 0, .int .i64 0]) Try.sizeOf26 (by exact e2_161) rfl rfl c168) ?_
              generalize hw167 : setAll w165 p5 0 [.int .i64 0, .int .i64 0, .int .i64 0, .int .i64 0, .int .i64 0, .slice none 0 0, .int .i64 0, .bool false, .bool false, .bool false, .int .i64 0, .int .i64 0] = w167 at h ⊢
              try dsimp only at h
              refine WL_val gd0 ((o_assign (v := .int .i64 4) rfl) _) rfl ?_
              refine WL_nil ?_
              refine nrm ?_
              refine WC_ret ?_
              refine rtT ?_
              refine rtE ?_
              obtain ⟨r169, r170, r171, r172, r173, r_a174, r_n175, r_c176, r177, r178, r179, r180, r181, r182, hc183, h⟩ := h
              exact gvC1 (vs := [.int .i64 r169, .int .i64 r170, .int .i64 r171, .int .i64 r172, .int .i64 r173, .slice r_a174 r_n175 r_c176, .int .i64 r177, .bool r178, .bool r179, .bool r180, .int .i64 r181, .int .i64 r182]) rfl Try.isAgg26 Try.sizeOf26 (by exact e2_161) hc183 rfl h
            · rw [if_neg (neT hb166)] at h
              refine WC_skip ?_
              refine nrm ?_
              refine WC_seq ?_
              refine WC_region ?_
              obtain ⟨x184, x185, x186, x187, x188, x_a189, x_n190, x_c191, x192, x193, x194, x195, x196, x197, hc198, h⟩ := h
              refine WL_val gd0 (o_loadAgg (vs := [.int .i64 x184, .int .i64 x185, .int .i64 x186, .int .i64 x187, .int .i64 x188, .slice x_a189 x_n190 x_c191, .int .i64 x192, .bool x193, .bool x194, .bool x195, .int .i64 x196, .int .i64 x197]) Try.isAgg26 Try.sizeOf26 (by exact e5_162) hc198) rfl ?_
              obtain ⟨c200, h⟩ := h
              refine WL_act gd0 (o_storeAgg (vs := [.int .i64 x184, .int .i64 x185, .int .i64 x186, .int .i64 x187, .int .i64 x188, .slice x_a189 x_n190 x_c191, .int .i64 x192, .bool x193, .bool x194, .bool x195, .int .i64 x196, .int .i64 x197]) Try.sizeOf26 (by exact e2_161) rfl rfl c200) ?_
              generalize hw199 : setAll w165 p5 0 [.int .i64 x184, .int .i64 x185, .int .i64 x186, .int .i64 x187, .int .i64 x188, .slice x_a189 x_n190 x_c191, .int .i64 x192, .bool x193, .bool x194, .bool x195, .int .i64 x196, .int .i64 x197] = w199 at h ⊢
              try dsimp only at h
              refine WL_val gd0 ((o_assign (v := .int .i64 0) rfl) _) rfl ?_
              refine WL_nil ?_
              refine nrm ?_
              refine WC_ret ?_
              refine rtE ?_
              obtain ⟨r201, r202, r203, r204, r205, r_a206, r_n207, r_c208, r209, r210, r211, r212, r213, r214, hc215, h⟩ := h
              exact gvC1 (vs := [.int .i64 r201, .int .i64 r202, .int .i64 r203, .int .i64 r204, .int .i64 r205, .slice r_a206 r_n207 r_c208, .int .i64 r209, .bool r210, .bool r211, .bool r212, .int .i64 r213, .int .i64 r214]) rfl Try.isAgg26 Try.sizeOf26 (by exact e2_161) hc215 rfl h

def F14_j1 (p5 : Addr) (p79 : Addr) (t165 : Bool) (w166 : World) (k : Value → World → Prop) : Prop :=
  if t165 = true then
  PutAll w166 p5 [.int .i64 0, .int .i64 0, .int .i64 0, .int .i64 0, .int .i64 0, .slice none 0 0, .int .i64 0, .bool false, .bool false, .bool false, .int .i64 0, .int .i64 0] (fun w168 => ∃ (r170 r171 r172 r173 r174 : Int) (r_a175 : Option Addr) (r_n176 r_c177 : Nat) (r178 : Int) (r179 r180 r181 : Bool) (r182 r183 : Int), Cells w168 p5 0 [.int .i64 r170, .int .i64 r171, .int .i64 r172, .int .i64 r173, .int .i64 r174, .slice r_a175 r_n176 r_c177, .int .i64 r178, .bool r179, .bool r180, .bool r181, .int .i64 r182, .int .i64 r183] ∧ k (.tuple #[.agg #[.int .i64 r170, .int .i64 r171, .int .i64 r172, .int .i64 r173, .int .i64 r174, .slice r_a175 r_n176 r_c177, .int .i64 r178, .bool r179, .bool r180, .bool r181, .int .i64 r182, .int .i64 r183], .int .i64 4]) w168)
else
  ∃ (x185 x186 x187 x188 x189 : Int) (x_a190 : Option Addr) (x_n191 x_c192 : Nat) (x193 : Int) (x194 x195 x196 : Bool) (x197 x198 : Int), Cells w166 p79 0 [.int .i64 x185, .int .i64 x186, .int .i64 x187, .int .i64 x188, .int .i64 x189, .slice x_a190 x_n191 x_c192, .int .i64 x193, .bool x194, .bool x195, .bool x196, .int .i64 x197, .int .i64 x198] ∧ PutAll w166 p5 [.int .i64 x185, .int .i64 x186, .int .i64 x187, .int .i64 x188, .int .i64 x189, .slice x_a190 x_n191 x_c192, .int .i64 x193, .bool x194, .bool x195, .bool x196, .int .i64 x197, .int .i64 x198] (fun w200 => ∃ (r202 r203 r204 r205 r206 : Int) (r_a207 : Option Addr) (r_n208 r_c209 : Nat) (r210 : Int) (r211 r212 r213 : Bool) (r214 r215 : Int), Cells w200 p5 0 [.int .i64 r202, .int .i64 r203, .int .i64 r204, .int .i64 r205, .int .i64 r206, .slice r_a207 r_n208 r_c209, .int .i64 r210, .bool r211, .bool r212, .bool r213, .int .i64 r214, .int .i64 r215] ∧ k (.tuple #[.agg #[.int .i64 r202, .int .i64 r203, .int .i64 r204, .int .i64 r205, .int .i64 r206, .slice r_a207 r_n208 r_c209, .int .i64 r210, .bool r211, .bool r212, .bool r213, .int .i64 r214, .int .i64 r215], .int .i64 0]) w200)
/-- spacecraft spacecraftref18.Decode -/
def F14 (b_a1 : Option Addr) (b_n2 : Nat) (b_c3 : Nat) (w4 : World) (k : Value → World → Prop) : Prop :=
  New w4 26 [.int .i64 0, .int .i64 0, .int .i64 0, .int .i64 0, .int .i64 0, .slice none 0 0, .int .i64 0, .bool false, .bool false, .bool false, .int .i64 0, .int .i64 0] (fun p5 w6 => if (b_n2 : Int) < 13 then
  PutAll w6 p5 [.int .i64 0, .int .i64 0, .int .i64 0, .int .i64 0, .int .i64 0, .slice none 0 0, .int .i64 0, .bool false, .bool false, .bool false, .int .i64 0, .int .i64 0] (fun w8 => ∃ (r10 r11 r12 r13 r14 : Int) (r_a15 : Option Addr) (r_n16 r_c17 : Nat) (r18 : Int) (r19 r20 r21 : Bool) (r22 r23 : Int), Cells w8 p5 0 [.int .i64 r10, .int .i64 r11, .int .i64 r12, .int .i64 r13, .int .i64 r14, .slice r_a15 r_n16 r_c17, .int .i64 r18, .bool r19, .bool r20, .bool r21, .int .i64 r22, .int .i64 r23] ∧ k (.tuple #[.agg #[.int .i64 r10, .int .i64 r11, .int .i64 r12, .int .i64 r13, .int .i64 r14, .slice r_a15 r_n16 r_c17, .int .i64 r18, .bool r19, .bool r20, .bool r21, .int .i64 r22, .int .i64 r23], .int .i64 3]) w8)
else
  if 1024 < (b_n2 : Int) then
    PutAll w6 p5 [.int .i64 0, .int .i64 0, .int .i64 0, .int .i64 0, .int .i64 0, .slice none 0 0, .int .i64 0, .bool false, .bool false, .bool false, .int .i64 0, .int .i64 0] (fun w26 => ∃ (r28 r29 r30 r31 r32 : Int) (r_a33 : Option Addr) (r_n34 r_c35 : Nat) (r36 : Int) (r37 r38 r39 : Bool) (r40 r41 : Int), Cells w26 p5 0 [.int .i64 r28, .int .i64 r29, .int .i64 r30, .int .i64 r31, .int .i64 r32, .slice r_a33 r_n34 r_c35, .int .i64 r36, .bool r37, .bool r38, .bool r39, .int .i64 r40, .int .i64 r41] ∧ k (.tuple #[.agg #[.int .i64 r28, .int .i64 r29, .int .i64 r30, .int .i64 r31, .int .i64 r32, .slice r_a33 r_n34 r_c35, .int .i64 r36, .bool r37, .bool r38, .bool r39, .int .i64 r40, .int .i64 r41], .int .i64 6]) w26)
  else
    (0 : Int) ≤ IntKind.i64.wrap ((b_n2 : Int) - 2) ∧ IntKind.i64.wrap ((b_n2 : Int) - 2) ≤ (b_c3 : Int) ∧ Does Try.prog 25 #[.slice b_a1 ((IntKind.i64.wrap ((b_n2 : Int) - 2)).toNat) b_c3] w6 (fun v w45 => ∃ (sum46 : Int), v = .int .u16 sum46 ∧ ∃ (p49 : Addr), b_a1 = some p49 ∧ (0 : Int) ≤ IntKind.i64.wrap ((b_n2 : Int) - 2) ∧ IntKind.i64.wrap ((b_n2 : Int) - 2) < (b_n2 : Int) ∧ ∃ (x51 : Int), w45.drew.cell? (p49.add ((IntKind.i64.wrap ((b_n2 : Int) - 2)).toNat)) = some (.int .u8 x51) ∧ (0 : Int) ≤ IntKind.i64.wrap ((IntKind.i64.wrap ((b_n2 : Int) - 2)) + 1) ∧ IntKind.i64.wrap ((IntKind.i64.wrap ((b_n2 : Int) - 2)) + 1) < (b_n2 : Int) ∧ ∃ (x55 : Int), w45.drew.cell? (p49.add ((IntKind.i64.wrap ((IntKind.i64.wrap ((b_n2 : Int) - 2)) + 1)).toNat)) = some (.int .u8 x55) ∧ if (IntKind.i64.wrap sum46) ≠ (IntKind.i64.wrap ((IntKind.i64.wrap (256 * (IntKind.i64.wrap x51))) + (IntKind.i64.wrap x55))) then
      PutAll w45.drew p5 [.int .i64 0, .int .i64 0, .int .i64 0, .int .i64 0, .int .i64 0, .slice none 0 0, .int .i64 0, .bool false, .bool false, .bool false, .int .i64 0, .int .i64 0] (fun w58 => ∃ (r60 r61 r62 r63 r64 : Int) (r_a65 : Option Addr) (r_n66 r_c67 : Nat) (r68 : Int) (r69 r70 r71 : Bool) (r72 r73 : Int), Cells w58 p5 0 [.int .i64 r60, .int .i64 r61, .int .i64 r62, .int .i64 r63, .int .i64 r64, .slice r_a65 r_n66 r_c67, .int .i64 r68, .bool r69, .bool r70, .bool r71, .int .i64 r72, .int .i64 r73] ∧ k (.tuple #[.agg #[.int .i64 r60, .int .i64 r61, .int .i64 r62, .int .i64 r63, .int .i64 r64, .slice r_a65 r_n66 r_c67, .int .i64 r68, .bool r69, .bool r70, .bool r71, .int .i64 r72, .int .i64 r73], .int .i64 5]) w58)
    else
      New w45.drew 62 [.slice none 0 0, .int .i64 0, .bool false] (fun p75 w76 => PutAll w76 p75 [.slice b_a1 b_n2 b_c3, .int .i64 0, .bool false] (fun w77 => New w77 26 [.int .i64 0, .int .i64 0, .int .i64 0, .int .i64 0, .int .i64 0, .slice none 0 0, .int .i64 0, .bool false, .bool false, .bool false, .int .i64 0, .int .i64 0] (fun p79 w80 => Does Try.prog 36 #[.pointer (some p75), .int .i64 2] w80 (fun v w81 => v = .tuple #[] ∧ Does Try.prog 37 #[.pointer (some p75), .int .i64 10] w81 (fun v w82 => ∃ (x83 : Int), v = .int .u64 x83 ∧ Put w82 p79 (.int .i64 (IntKind.i64.wrap x83)) (fun w84 => Does Try.prog 37 #[.pointer (some p75), .int .i64 3] w84 (fun v w86 => ∃ (x87 : Int), v = .int .u64 x87 ∧ Put w86 (p79.add 1) (.int .i64 (IntKind.i64.wrap x87)) (fun w88 => Does Try.prog 36 #[.pointer (some p75), .int .i64 1] w88 (fun v w90 => v = .tuple #[] ∧ Does Try.prog 37 #[.pointer (some p75), .int .i64 8] w90 (fun v w91 => ∃ (x92 : Int), v = .int .u64 x92 ∧ Put w91 (p79.add 2) (.int .i64 (IntKind.i64.wrap x92)) (fun w93 => Does Try.prog 37 #[.pointer (some p75), .int .i64 8] w93 (fun v w95 => ∃ (x96 : Int), v = .int .u64 x96 ∧ Put w95 (p79.add 3) (.int .i64 (IntKind.i64.wrap x96)) (fun w97 => Does Try.prog 36 #[.pointer (some p75), .int .i64 5] w97 (fun v w99 => v = .tuple #[] ∧ Does Try.prog 37 #[.pointer (some p75), .int .i64 11] w99 (fun v w100 => ∃ (x101 : Int), v = .int .u64 x101 ∧ Put w100 (p79.add 4) (.int .i64 (IntKind.i64.wrap x101)) (fun w102 => ∃ (x_a104 : Option Addr) (x_n105 x_c106 : Nat), w102.drew.cell? (p79.add 5) = some (.slice x_a104 x_n105 x_c106) ∧ (0 : Int) ≤ 6 ∧ 6 ≤ (IntKind.i64.wrap ((IntKind.i64.wrap ((b_n2 : Int) - 2)) - 4) : Int) ∧ IntKind.i64.wrap ((IntKind.i64.wrap ((b_n2 : Int) - 2)) - 4) ≤ (b_c3 : Int) ∧ ∃ (b_a111 : Option Addr) (b_n112 b_c113 : Nat) (w114 : World), (Builtin.append_ #[22, 22] 22 #[.slice x_a104 x_n105 x_c106, .slice (cutA b_a1 b_c3 ((6 : Int).toNat) 1) ((IntKind.i64.wrap ((IntKind.i64.wrap ((b_n2 : Int) - 2)) - 4)).toNat - (6 : Int).toNat) (b_c3 - (6 : Int).toNat)]).run Try.prog w102.drew = .ok (.slice b_a111 b_n112 b_c113) w114 ∧ Put w114 (p79.add 5) (.slice b_a111 b_n112 b_c113) (fun w116 => (0 : Int) ≤ IntKind.i64.wrap ((IntKind.i64.wrap ((b_n2 : Int) - 2)) - 4) ∧ IntKind.i64.wrap ((IntKind.i64.wrap ((b_n2 : Int) - 2)) - 4) ≤ (IntKind.i64.wrap ((b_n2 : Int) - 2) : Int) ∧ IntKind.i64.wrap ((b_n2 : Int) - 2) ≤ (b_c3 : Int) ∧ Does Try.prog 38 #[.slice (cutA b_a1 b_c3 ((IntKind.i64.wrap ((IntKind.i64.wrap ((b_n2 : Int) - 2)) - 4)).toNat) 1) ((IntKind.i64.wrap ((b_n2 : Int) - 2)).toNat - (IntKind.i64.wrap ((IntKind.i64.wrap ((b_n2 : Int) - 2)) - 4)).toNat) (b_c3 - (IntKind.i64.wrap ((IntKind.i64.wrap ((b_n2 : Int) - 2)) - 4)).toNat)] w116 (fun v w121 => ∃ (r122 : Int) (r123 r124 r125 : Bool) (r126 r127 r128 : Int), v = .tuple #[.agg #[.int .i64 r122, .bool r123, .bool r124, .bool r125, .int .i64 r126, .int .i64 r127], .int .i64 r128] ∧ New w121 24 [.int .i64 0, .bool false, .bool false, .bool false, .int .i64 0, .int .i64 0] (fun p129 w130 => PutAll w130 p129 [.int .i64 r122, .bool r123, .bool r124, .bool r125, .int .i64 r126, .int .i64 r127] (fun w131 => ∃ (x133 : Int) (x134 x135 x136 : Bool) (x137 x138 : Int), Cells w131 p129 0 [.int .i64 x133, .bool x134, .bool x135, .bool x136, .int .i64 x137, .int .i64 x138] ∧ PutAll w131 (p79.add 6) [.int .i64 x133, .bool x134, .bool x135, .bool x136, .int .i64 x137, .int .i64 x138] (fun w140 => ∃ (x142 x143 x144 x145 x146 : Int) (x_a147 : Option Addr) (x_n148 x_c149 : Nat) (x150 : Int) (x151 x152 x153 : Bool) (x154 x155 : Int), Cells w140 p79 0 [.int .i64 x142, .int .i64 x143, .int .i64 x144, .int .i64 x145, .int .i64 x146, .slice x_a147 x_n148 x_c149, .int .i64 x150, .bool x151, .bool x152, .bool x153, .int .i64 x154, .int .i64 x155] ∧ Does Try.prog 10 #[.agg #[.int .i64 x142, .int .i64 x143, .int .i64 x144, .int .i64 x145, .int .i64 x146, .slice x_a147 x_n148 x_c149, .int .i64 x150, .bool x151, .bool x152, .bool x153, .int .i64 x154, .int .i64 x155]] w140 (fun v w157 => ∃ (r_a158 : Option Addr) (r_n159 r_c160 : Nat) (r161 : Int), v = .tuple #[.slice r_a158 r_n159 r_c160, .int .i64 r161] ∧ if r128 ≠ 0 then
        F14_j1 p5 p79 true w157 k
      else
        if r161 ≠ 0 then
          F14_j1 p5 p79 true w157 k
        else
          ∃ (s219 : ByteArray), (Conv.bytesToString (.slice r_a158 r_n159 r_c160)).run Try.prog w157 = .ok (.string s219) w157 ∧ ∃ (s221 : ByteArray), (Conv.bytesToString (.slice b_a1 b_n2 b_c3)).run Try.prog w157 = .ok (.string s221) w157 ∧ F14_j1 p5 p79 (!(s219.toList == s221.toList)) w157 k))))))))))))))))))))))))
set_option maxRecDepth 100000 in
set_option maxHeartbeats 2000000 in
theorem w14 (b_a1 : Option Addr) (b_n2 : Nat) (b_c3 : Nat) (w4 : World) (k : Value → World → Prop) (h : F14 b_a1 b_n2 b_c3 w4 k) : Does Try.prog 14 #[.slice b_a1 b_n2 b_c3] w4 k := by
  refine enter 103 Try.func14 rfl rfl rfl ?_
  intro ρ hρ
  have e0 := hρ 0 _ rfl
  unfold F14 at h
  refine WC_seq ?_
  refine WC_region ?_
  have h := New.out h
  refine WL_val gd0 (o_alloc (z := .agg #[.int .i64 0, .int .i64 0, .int .i64 0, .int .i64 0, .int .i64 0, .slice none 0 0, .int .i64 0, .bool false, .bool false, .bool false, .int .i64 0, .int .i64 0]) (cs := [.int .i64 0, .int .i64 0, .int .i64 0, .int .i64 0, .int .i64 0, .slice none 0 0, .int .i64 0, .bool false, .bool false, .bool false, .int .i64 0, .int .i64 0]) Try.zeroValue26 rfl) rfl ?_
  generalize hp5 : fresh w4 = p5 at h ⊢
  generalize hw6 : push w4 26 [.int .i64 0, .int .i64 0, .int .i64 0, .int .i64 0, .int .i64 0, .slice none 0 0, .int .i64 0, .bool false, .bool false, .bool false, .int .i64 0, .int .i64 0] = w6 at h ⊢
  try dsimp only at h
  refine WL_val gd0 ((o_assign (v := .int .i64 0) rfl) _) rfl ?_
  refine WL_nil ?_
  refine nrm ?_
  refine WC_seq ?_
  refine WC_seq ?_
  refine WC_region ?_
  refine WL_val gd0 ((o_move (v := .slice b_a1 b_n2 b_c3) (by exact e0)) _) rfl ?_
  refine WL_val gd0 ((o_len Try.underlying22 rfl) _) rfl ?_
  refine WL_val gd0 ((o_lss rfl rfl) _) rfl ?_
  refine WL_nil ?_
  refine nrm ?_
  refine WC_cond (t := (decide ((b_n2 : Int) < 13))) rfl (fun hb7 => ?_) (fun hb7 => ?_)
  · rw [if_pos (of_decide_eq_true hb7)] at h
    refine WC_seq ?_
    refine WC_region ?_
    refine WL_val gd0 ((o_build (ps := []) (v := .agg #[.int .i64 0, .int .i64 0, .int .i64 0, .int .i64 0, .int .i64 0, .slice none 0 0, .int .i64 0, .bool false, .bool false, .bool false, .int .i64 0, .int .i64 0]) partNil (fun w => by kernel_rfl)) _) rfl ?_
    obtain ⟨c9, h⟩ := h
    refine WL_act gd0 (o_storeAgg (vs := [.int .i64 0, .int .i64 0, .int .i64 0, .int .i64 0, .int .i64 0, .slice none 0 0, .int .i64 0, .bool false, .bool false, .bool false, .int .i64 0, .int .i64 0]) Try.sizeOf26 rfl rfl rfl c9) ?_
    generalize hw8 : setAll w6 p5 0 [.int .i64 0, .int .i64 0, .int .i64 0, .int .i64 0, .int .i64 0, .slice none 0 0, .int .i64 0, .bool false, .bool false, .bool false, .int .i64 0, .int .i64 0] = w8 at h ⊢
    try dsimp only at h
    refine WL_val gd0 ((o_assign (v := .int .i64 3) rfl) _) rfl ?_
    refine WL_nil ?_
    refine nrm ?_
    refine WC_ret ?_
    refine rtT ?_
    refine rtE ?_
    obtain ⟨r10, r11, r12, r13, r14, r_a15, r_n16, r_c17, r18, r19, r20, r21, r22, r23, hc24, h⟩ := h
    exact gvC1 (vs := [.int .i64 r10, .int .i64 r11, .int .i64 r12, .int .i64 r13, .int .i64 r14, .slice r_a15 r_n16 r_c17, .int .i64 r18, .bool r19, .bool r20, .bool r21, .int .i64 r22, .int .i64 r23]) rfl Try.isAgg26 Try.sizeOf26 rfl hc24 rfl h
  · rw [if_neg (of_decide_eq_false hb7)] at h
    refine WC_skip ?_
    refine nrm ?_
    refine WC_seq ?_
    refine WC_seq ?_
    refine WC_region ?_
    refine WL_val gd0 ((o_move (v := .slice b_a1 b_n2 b_c3) (by exact e0)) _) rfl ?_
    refine WL_val gd0 ((o_len Try.underlying22 rfl) _) rfl ?_
    refine WL_val gd0 ((o_gtr rfl rfl) _) rfl ?_
    refine WL_nil ?_
    refine nrm ?_
    refine WC_cond (t := (decide (1024 < (b_n2 : Int)))) rfl (fun hb25 => ?_) (fun hb25 => ?_)
    · rw [if_pos (of_decide_eq_true hb25)] at h
      refine WC_seq ?_
      refine WC_region ?_
      refine WL_val gd0 ((o_build (ps := []) (v := .agg #[.int .i64 0, .int .i64 0, .int .i64 0, .int .i64 0, .int .i64 0, .slice none 0 0, .int .i64 0, .bool false, .bool false, .bool false, .int .i64 0, .int .i64 0]) partNil (fun w => by kernel_rfl)) _) rfl ?_
      obtain ⟨c27, h⟩ := h
      refine WL_act gd0 (o_storeAgg (vs := [.int .i64 0, .int .i64 0, .int .i64 0, .int .i64 0, .int .i64 0, .slice none 0 0, .int .i64 0, .bool false, .bool false, .bool false, .int .i64 0, .int .i64 0]) Try.sizeOf26 rfl rfl rfl c27) ?_
      generalize hw26 : setAll w6 p5 0 [.int .i64 0, .int .i64 0, .int .i64 0, .int .i64 0, .int .i64 0, .slice none 0 0, .int .i64 0, .bool false, .bool false, .bool false, .int .i64 0, .int .i64 0] = w26 at h ⊢
      try dsimp only at h
      refine WL_val gd0 ((o_assign (v := .int .i64 6) rfl) _) rfl ?_
      refine WL_nil ?_
      refine nrm ?_
      refine WC_ret ?_
      refine rtT ?_
      refine rtE ?_
      obtain ⟨r28, r29, r30, r31, r32, r_a33, r_n34, r_c35, r36, r37, r38, r39, r40, r41, hc42, h⟩ := h
      exact gvC1 (vs := [.int .i64 r28, .int .i64 r29, .int .i64 r30, .int .i64 r31, .int .i64 r32, .slice r_a33 r_n34 r_c35, .int .i64 r36, .bool r37, .bool r38, .bool r39, .int .i64 r40, .int .i64 r41]) rfl Try.isAgg26 Try.sizeOf26 rfl hc42 rfl h
    · rw [if_neg (of_decide_eq_false hb25)] at h
      refine WC_skip ?_
      refine nrm ?_
      refine WC_seq ?_
      refine WC_region ?_
      refine WL_val gd0 ((o_move (v := .slice b_a1 b_n2 b_c3) (by exact e0)) _) rfl ?_
      refine WL_val gd0 ((o_len Try.underlying22 rfl) _) rfl ?_
      refine WL_val gd0 ((o_sub rfl rfl) _) rfl ?_
      refine WL_val gd0 ((o_assign (v := .int .i64 (IntKind.i64.wrap ((b_n2 : Int) - 2))) rfl) _) rfl ?_
      refine WL_nil ?_
      refine nrm ?_
      refine WC_seq ?_
      refine WC_region ?_
      refine WL_val gd0 ((o_move (v := .slice b_a1 b_n2 b_c3) (by exact e0)) _) rfl ?_
      refine WL_val gd0 ((o_move (v := .int .i64 (IntKind.i64.wrap ((b_n2 : Int) - 2))) rfl) _) rfl ?_
      obtain ⟨c43, c44, h⟩ := h
      refine WL_val gd0 ((o_sliceH Try.underlying22 Try.sizeOf5 rfl rfl c43 c44) _) rfl ?_
      refine WL_call gd0 (o_call Try.call25 (argCons rfl argNil) _) rfl (h.mono ?_)
      rintro _ w45 ⟨sum46, rfl, h⟩
      refine WL_val gd0 ((o_assign (v := .int .u16 sum46) rfl) _) rfl ?_
      refine WL_nil ?_
      refine nrm ?_
      refine WC_seq ?_
      refine WC_seq ?_
      refine WC_draws [] (.look 0 (.look 1 (.look 2 (.look 3 (.look 4 (.look 5 (.look 6 (.look 7 (.look 8 (.look 9 (.look 10 (.look 11 (.look 12 (.look 13 (.look 14 (.look 15 .nil)))))))))))))))) Try.mixed (by kernel_rfl) ?_
      refine WQ_val rfl gd0 (o_move (v := .int .u16 sum46) rfl) rfl ?_
      refine WQ_val rfl gd0 (o_conv Try.underlying50 Try.underlying3 rfl) rfl ?_
      refine WQ_val rfl gd0 (o_move (v := .slice b_a1 b_n2 b_c3) (by exact e0)) rfl ?_
      refine WQ_val rfl gd0 (o_move (v := .int .i64 (IntKind.i64.wrap ((b_n2 : Int) - 2))) rfl) rfl ?_
      obtain ⟨p49, q50, h⟩ := h
      obtain ⟨l47, u48, h⟩ := h
      refine WQ_val rfl gd0 (o_indexAddr1 Try.underlying22 Try.sizeOf5 (by exact (congrArg (fun z => Value.slice z b_n2 b_c3) q50)) rfl l47 u48) rfl ?_
      obtain ⟨x51, hc52, h⟩ := h
      refine WQ_look (fun w => w.cell? (p49.add ((IntKind.i64.wrap ((b_n2 : Int) - 2)).toNat)) = some (.int .u8 x51)) rfl gd0 (fun w hc => (o_load Try.isAgg5 rfl hc)) hc52 rfl ?_
      refine WQ_val rfl gd0 (o_conv Try.underlying5 Try.underlying3 rfl) rfl ?_
      refine WQ_val rfl gd0 (o_mul rfl rfl) rfl ?_
      refine WQ_val rfl gd0 (o_move (v := .slice b_a1 b_n2 b_c3) (by exact e0)) rfl ?_
      refine WQ_val rfl gd0 (o_move (v := .int .i64 (IntKind.i64.wrap ((b_n2 : Int) - 2))) rfl) rfl ?_
      refine WQ_val rfl gd0 (o_add rfl rfl) rfl ?_
      obtain ⟨l53, u54, h⟩ := h
      refine WQ_val rfl gd0 (o_indexAddr1 Try.underlying22 Try.sizeOf5 (by exact (congrArg (fun z => Value.slice z b_n2 b_c3) q50)) rfl l53 u54) rfl ?_
      obtain ⟨x55, hc56, h⟩ := h
      refine WQ_look (fun w => w.cell? (p49.add ((IntKind.i64.wrap ((IntKind.i64.wrap ((b_n2 : Int) - 2)) + 1)).toNat)) = some (.int .u8 x55)) rfl gd0 (fun w hc => (o_load Try.isAgg5 rfl hc)) hc56 rfl ?_
      refine WQ_val rfl gd0 (o_conv Try.underlying5 Try.underlying3 rfl) rfl ?_
      refine WQ_val rfl gd0 (o_add rfl rfl) rfl ?_
      refine WQ_val rfl gd0 (o_neq rfl rfl) rfl ?_
      refine WQ_nil ?_
      refine nrm ?_
      refine WC_cond (t := (decide ((IntKind.i64.wrap sum46) ≠ (IntKind.i64.wrap ((IntKind.i64.wrap (256 * (IntKind.i64.wrap x51))) + (IntKind.i64.wrap x55)))))) rfl (fun hb57 => ?_) (fun hb57 => ?_)
      · rw [if_pos (of_decide_eq_true hb57)] at h
        refine WC_seq ?_
        refine WC_region ?_
        refine WL_val gd0 ((o_build (ps := []) (v := .agg #[.int .i64 0, .int .i64 0, .int .i64 0, .int .i64 0, .int .i64 0, .slice none 0 0, .int .i64 0, .bool false, .bool false, .bool false, .int .i64 0, .int .i64 0]) partNil (fun w => by kernel_rfl)) _) rfl ?_
        obtain ⟨c59, h⟩ := h
        refine WL_act gd0 (o_storeAgg (vs := [.int .i64 0, .int .i64 0, .int .i64 0, .int .i64 0, .int .i64 0, .slice none 0 0, .int .i64 0, .bool false, .bool false, .bool false, .int .i64 0, .int .i64 0]) Try.sizeOf26 rfl rfl rfl c59) ?_
        generalize hw58 : setAll w45.drew p5 0 [.int .i64 0, .int .i64 0, .int .i64 0, .int .i64 0, .int .i64 0, .slice none 0 0, .int .i64 0, .bool false, .bool false, .bool false, .int .i64 0, .int .i64 0] = w58 at h ⊢
        try dsimp only at h
        refine WL_val gd0 ((o_assign (v := .int .i64 5) rfl) _) rfl ?_
        refine WL_nil ?_
        refine nrm ?_
        refine WC_ret ?_
        refine rtT ?_
        refine rtE ?_
        obtain ⟨r60, r61, r62, r63, r64, r_a65, r_n66, r_c67, r68, r69, r70, r71, r72, r73, hc74, h⟩ := h
        exact gvC1 (vs := [.int .i64 r60, .int .i64 r61, .int .i64 r62, .int .i64 r63, .int .i64 r64, .slice r_a65 r_n66 r_c67, .int .i64 r68, .bool r69, .bool r70, .bool r71, .int .i64 r72, .int .i64 r73]) rfl Try.isAgg26 Try.sizeOf26 rfl hc74 rfl h
      · rw [if_neg (of_decide_eq_false hb57)] at h
        refine WC_skip ?_
        refine nrm ?_
        refine WC_seq ?_
        refine WC_region ?_
        refine WL_val gd0 ((o_move (v := .slice b_a1 b_n2 b_c3) (by exact e0)) _) rfl ?_
        refine WL_val gd0 ((o_build (ps := [(0, .slice b_a1 b_n2 b_c3)]) (v := .agg #[.slice b_a1 b_n2 b_c3, .int .i64 0, .bool false]) (partCons rfl partNil) (fun w => by kernel_rfl)) _) rfl ?_
        have h := New.out h
        refine WL_val gd0 (o_alloc (z := .agg #[.slice none 0 0, .int .i64 0, .bool false]) (cs := [.slice none 0 0, .int .i64 0, .bool false]) Try.zeroValue62 rfl) rfl ?_
        generalize hp75 : fresh w45.drew = p75 at h ⊢
        generalize hw76 : push w45.drew 62 [.slice none 0 0, .int .i64 0, .bool false] = w76 at h ⊢
        try dsimp only at h
        obtain ⟨c78, h⟩ := h
        refine WL_act gd0 (o_storeAgg (vs := [.slice b_a1 b_n2 b_c3, .int .i64 0, .bool false]) Try.sizeOf62 rfl rfl rfl c78) ?_
        generalize hw77 : setAll w76 p75 0 [.slice b_a1 b_n2 b_c3, .int .i64 0, .bool false] = w77 at h ⊢
        try dsimp only at h
        refine WL_nil ?_
        refine nrm ?_
        refine WC_seq ?_
        refine WC_region ?_
        have h := New.out h
        refine WL_val gd0 (o_alloc (z := .agg #[.int .i64 0, .int .i64 0, .int .i64 0, .int .i64 0, .int .i64 0, .slice none 0 0, .int .i64 0, .bool false, .bool false, .bool false, .int .i64 0, .int .i64 0]) (cs := [.int .i64 0, .int .i64 0, .int .i64 0, .int .i64 0, .int .i64 0, .slice none 0 0, .int .i64 0, .bool false, .bool false, .bool false, .int .i64 0, .int .i64 0]) Try.zeroValue26 rfl) rfl ?_
        generalize hp79 : fresh w77 = p79 at h ⊢
        generalize hw80 : push w77 26 [.int .i64 0, .int .i64 0, .int .i64 0, .int .i64 0, .int .i64 0, .slice none 0 0, .int .i64 0, .bool false, .bool false, .bool false, .int .i64 0, .int .i64 0] = w80 at h ⊢
        try dsimp only at h
        refine WL_nil ?_
        refine nrm ?_
        refine WC_seq ?_
        refine WC_region ?_
        refine WL_call gd0 (o_call Try.call36 (argCons rfl (argCons rfl argNil)) _) rfl (h.mono ?_)
        rintro _ w81 ⟨rfl, h⟩
        refine WL_nil ?_
        refine nrm ?_
        refine WC_seq ?_
        refine WC_region ?_
        refine WL_call gd0 (o_call Try.call37 (argCons rfl (argCons rfl argNil)) _) rfl (h.mono ?_)
        rintro _ w82 ⟨x83, rfl, h⟩
        refine WL_val gd0 ((o_conv Try.underlying41 Try.underlying3 rfl) _) rfl ?_
        refine WL_val gd0 ((o_fieldAddr0 Try.underlying26 rfl Try.sizeOf3 rfl rfl rfl) _) rfl ?_
        obtain ⟨c85, h⟩ := h
        refine WL_act gd0 (o_store (v := .int .i64 (IntKind.i64.wrap x83)) Try.sizeOf3 rfl rfl rfl c85) ?_
        generalize hw84 : World.setCell w82 p79 (.int .i64 (IntKind.i64.wrap x83)) = w84 at h ⊢
        try dsimp only at h
        refine WL_nil ?_
        refine nrm ?_
        refine WC_seq ?_
        refine WC_region ?_
        refine WL_call gd0 (o_call Try.call37 (argCons rfl (argCons rfl argNil)) _) rfl (h.mono ?_)
        rintro _ w86 ⟨x87, rfl, h⟩
        refine WL_val gd0 ((o_conv Try.underlying41 Try.underlying3 rfl) _) rfl ?_
        refine WL_val gd0 ((o_fieldAddr 1 Try.underlying26 rfl Try.sizeOf3 rfl rfl rfl) _) rfl ?_
        obtain ⟨c89, h⟩ := h
        refine WL_act gd0 (o_store (v := .int .i64 (IntKind.i64.wrap x87)) Try.sizeOf3 rfl rfl rfl c89) ?_
        generalize hw88 : World.setCell w86 (p79.add 1) (.int .i64 (IntKind.i64.wrap x87)) = w88 at h ⊢
        try dsimp only at h
        refine WL_nil ?_
        refine nrm ?_
        refine WC_seq ?_
        refine WC_region ?_
        refine WL_call gd0 (o_call Try.call36 (argCons rfl (argCons rfl argNil)) _) rfl (h.mono ?_)
        rintro _ w90 ⟨rfl, h⟩
        refine WL_nil ?_
        refine nrm ?_
        refine WC_seq ?_
        refine WC_region ?_
        refine WL_call gd0 (o_call Try.call37 (argCons rfl (argCons rfl argNil)) _) rfl (h.mono ?_)
        rintro _ w91 ⟨x92, rfl, h⟩
        refine WL_val gd0 ((o_conv Try.underlying41 Try.underlying3 rfl) _) rfl ?_
        refine WL_val gd0 ((o_fieldAddr 2 Try.underlying26 rfl Try.sizeOf3 rfl rfl rfl) _) rfl ?_
        obtain ⟨c94, h⟩ := h
        refine WL_act gd0 (o_store (v := .int .i64 (IntKind.i64.wrap x92)) Try.sizeOf3 rfl rfl rfl c94) ?_
        generalize hw93 : World.setCell w91 (p79.add 2) (.int .i64 (IntKind.i64.wrap x92)) = w93 at h ⊢
        try dsimp only at h
        refine WL_nil ?_
        refine nrm ?_
        refine WC_seq ?_
        refine WC_region ?_
        refine WL_call gd0 (o_call Try.call37 (argCons rfl (argCons rfl argNil)) _) rfl (h.mono ?_)
        rintro _ w95 ⟨x96, rfl, h⟩
        refine WL_val gd0 ((o_conv Try.underlying41 Try.underlying3 rfl) _) rfl ?_
        refine WL_val gd0 ((o_fieldAddr 3 Try.underlying26 rfl Try.sizeOf3 rfl rfl rfl) _) rfl ?_
        obtain ⟨c98, h⟩ := h
        refine WL_act gd0 (o_store (v := .int .i64 (IntKind.i64.wrap x96)) Try.sizeOf3 rfl rfl rfl c98) ?_
        generalize hw97 : World.setCell w95 (p79.add 3) (.int .i64 (IntKind.i64.wrap x96)) = w97 at h ⊢
        try dsimp only at h
        refine WL_nil ?_
        refine nrm ?_
        refine WC_seq ?_
        refine WC_region ?_
        refine WL_call gd0 (o_call Try.call36 (argCons rfl (argCons rfl argNil)) _) rfl (h.mono ?_)
        rintro _ w99 ⟨rfl, h⟩
        refine WL_nil ?_
        refine nrm ?_
        refine WC_seq ?_
        refine WC_region ?_
        refine WL_call gd0 (o_call Try.call37 (argCons rfl (argCons rfl argNil)) _) rfl (h.mono ?_)
        rintro _ w100 ⟨x101, rfl, h⟩
        refine WL_val gd0 ((o_conv Try.underlying41 Try.underlying3 rfl) _) rfl ?_
        refine WL_val gd0 ((o_fieldAddr 4 Try.underlying26 rfl Try.sizeOf3 rfl rfl rfl) _) rfl ?_
        obtain ⟨c103, h⟩ := h
        refine WL_act gd0 (o_store (v := .int .i64 (IntKind.i64.wrap x101)) Try.sizeOf3 rfl rfl rfl c103) ?_
        generalize hw102 : World.setCell w100 (p79.add 4) (.int .i64 (IntKind.i64.wrap x101)) = w102 at h ⊢
        try dsimp only at h
        refine WL_nil ?_
        refine nrm ?_
        refine WC_seq ?_
        refine WC_draws [6, 8] (.look 0 (.look 1 (.look 2 (.look 3 (.look 4 (.look 5 (.act 6 (.look 7 (.act 8 .nil))))))))) Try.mixed (by kernel_rfl) ?_
        refine WQ_val rfl gd0 (o_fieldAddr 5 Try.underlying26 rfl Try.sizeOf22 rfl rfl rfl) rfl ?_
        obtain ⟨x_a104, x_n105, x_c106, hc107, h⟩ := h
        refine WQ_look (fun w => w.cell? (p79.add 5) = some (.slice x_a104 x_n105 x_c106)) rfl gd0 (fun w hc => (o_load Try.isAgg22 rfl hc)) hc107 rfl ?_
        refine WQ_val rfl gd0 (o_move (v := .slice b_a1 b_n2 b_c3) (by exact e0)) rfl ?_
        refine WQ_val rfl gd0 (o_move (v := .int .i64 (IntKind.i64.wrap ((b_n2 : Int) - 2))) rfl) rfl ?_
        refine WQ_val rfl gd0 (o_sub rfl rfl) rfl ?_
        obtain ⟨c108, c109, c110, h⟩ := h
        refine WQ_val rfl gd0 (o_sliceLH Try.underlying22 Try.sizeOf5 rfl rfl rfl c108 c109 c110) rfl ?_
        obtain ⟨b_a111, b_n112, b_c113, w114, r115, h⟩ := h
        refine WQ_act rfl gd0 (o_append rfl rfl r115) rfl (by exact ⟨trivial, depT (by kernel_rfl)⟩) ?_
        refine WQ_val rfl gd0 (o_fieldAddr 5 Try.underlying26 rfl Try.sizeOf22 rfl rfl rfl) rfl ?_
        obtain ⟨c117, h⟩ := h
        refine WQ_do rfl gd0 (o_store (v := .slice b_a111 b_n112 b_c113) Try.sizeOf22 rfl rfl rfl c117) (by exact ⟨trivial, depT (by kernel_rfl)⟩) ?_
        generalize hw116 : World.setCell w114 (p79.add 5) (.slice b_a111 b_n112 b_c113) = w116 at h ⊢
        try dsimp only at h
        refine WQ_nil ?_
        refine nrm ?_
        refine WC_seq ?_
        refine WC_region ?_
        refine WL_val gd0 ((o_move (v := .slice b_a1 b_n2 b_c3) (by exact e0)) _) rfl ?_
        refine WL_val gd0 ((o_move (v := .int .i64 (IntKind.i64.wrap ((b_n2 : Int) - 2))) rfl) _) rfl ?_
        refine WL_val gd0 ((o_sub rfl rfl) _) rfl ?_
        refine WL_val gd0 ((o_move (v := .int .i64 (IntKind.i64.wrap ((b_n2 : Int) - 2))) rfl) _) rfl ?_
        obtain ⟨c118, c119, c120, h⟩ := h
        refine WL_val gd0 ((o_sliceLH Try.underlying22 Try.sizeOf5 rfl rfl rfl c118 c119 c120) _) rfl ?_
        refine WL_call gd0 (o_call Try.call38 (argCons rfl argNil) _) rfl (h.mono ?_)
        rintro _ w121 ⟨r122, r123, r124, r125, r126, r127, r128, rfl, h⟩
        refine WL_val gd0 ((o_move (v := .tuple #[.agg #[.int .i64 r122, .bool r123, .bool r124, .bool r125, .int .i64 r126, .int .i64 r127], .int .i64 r128]) rfl) _) rfl ?_
        refine WL_val gd0 ((o_extract (vs := [.agg #[.int .i64 r122, .bool r123, .bool r124, .bool r125, .int .i64 r126, .int .i64 r127], .int .i64 r128]) (r := .agg #[.int .i64 r122, .bool r123, .bool r124, .bool r125, .int .i64 r126, .int .i64 r127]) rfl rfl) _) rfl ?_
        refine WL_val gd0 ((o_extract (vs := [.agg #[.int .i64 r122, .bool r123, .bool r124, .bool r125, .int .i64 r126, .int .i64 r127], .int .i64 r128]) (r := .int .i64 r128) rfl rfl) _) rfl ?_
        have h := New.out h
        refine WL_val gd0 (o_alloc (z := .agg #[.int .i64 0, .bool false, .bool false, .bool false, .int .i64 0, .int .i64 0]) (cs := [.int .i64 0, .bool false, .bool false, .bool false, .int .i64 0, .int .i64 0]) Try.zeroValue24 rfl) rfl ?_
        generalize hp129 : fresh w121 = p129 at h ⊢
        generalize hw130 : push w121 24 [.int .i64 0, .bool false, .bool false, .bool false, .int .i64 0, .int .i64 0] = w130 at h ⊢
        try dsimp only at h
        obtain ⟨c132, h⟩ := h
        refine WL_act gd0 (o_storeAgg (vs := [.int .i64 r122, .bool r123, .bool r124, .bool r125, .int .i64 r126, .int .i64 r127]) Try.sizeOf24 rfl rfl rfl c132) ?_
        generalize hw131 : setAll w130 p129 0 [.int .i64 r122, .bool r123, .bool r124, .bool r125, .int .i64 r126, .int .i64 r127] = w131 at h ⊢
        try dsimp only at h
        refine WL_val gd0 ((o_assign (v := .int .i64 r128) rfl) _) rfl ?_
        refine WL_nil ?_
        refine nrm ?_
        refine WC_seq ?_
        refine WC_region ?_
        obtain ⟨x133, x134, x135, x136, x137, x138, hc139, h⟩ := h
        refine WL_val gd0 (o_loadAgg (vs := [.int .i64 x133, .bool x134, .bool x135, .bool x136, .int .i64 x137, .int .i64 x138]) Try.isAgg24 Try.sizeOf24 rfl hc139) rfl ?_
        refine WL_val gd0 ((o_fieldAddr 6 Try.underlying26 rfl Try.sizeOf24 rfl rfl rfl) _) rfl ?_
        obtain ⟨c141, h⟩ := h
        refine WL_act gd0 (o_storeAgg (vs := [.int .i64 x133, .bool x134, .bool x135, .bool x136, .int .i64 x137, .int .i64 x138]) Try.sizeOf24 rfl rfl rfl c141) ?_
        generalize hw140 : setAll w131 (p79.add 6) 0 [.int .i64 x133, .bool x134, .bool x135, .bool x136, .int .i64 x137, .int .i64 x138] = w140 at h ⊢
        try dsimp only at h
        refine WL_nil ?_
        refine nrm ?_
        refine WC_seq ?_
        refine WC_region ?_
        obtain ⟨x142, x143, x144, x145, x146, x_a147, x_n148, x_c149, x150, x151, x152, x153, x154, x155, hc156, h⟩ := h
        refine WL_val gd0 (o_loadAgg (vs := [.int .i64 x142, .int .i64 x143, .int .i64 x144, .int .i64 x145, .int .i64 x146, .slice x_a147 x_n148 x_c149, .int .i64 x150, .bool x151, .bool x152, .bool x153, .int .i64 x154, .int .i64 x155]) Try.isAgg26 Try.sizeOf26 rfl hc156) rfl ?_
        refine WL_call gd0 (o_call Try.call10 (argCons rfl argNil) _) rfl (h.mono ?_)
        rintro _ w157 ⟨r_a158, r_n159, r_c160, r161, rfl, h⟩
        refine WL_val gd0 ((o_move (v := .tuple #[.slice r_a158 r_n159 r_c160, .int .i64 r161]) rfl) _) rfl ?_
        refine WL_val gd0 ((o_extract (vs := [.slice r_a158 r_n159 r_c160, .int .i64 r161]) (r := .slice r_a158 r_n159 r_c160) rfl rfl) _) rfl ?_
        refine WL_val gd0 ((o_extract (vs := [.slice r_a158 r_n159 r_c160, .int .i64 r161]) (r := .int .i64 r161) rfl rfl) _) rfl ?_
        refine WL_val gd0 ((o_assign (v := .slice r_a158 r_n159 r_c160) rfl) _) rfl ?_
        refine WL_val gd0 ((o_assign (v := .int .i64 r161) rfl) _) rfl ?_
        refine WL_nil ?_
        refine nrm ?_
        refine WC_seq ?_
        refine WC_cut (fun ρ w' => ∃ (t165 : Bool), ρ 100 = .bool t165 ∧ ρ 2 = .pointer (some p5) ∧ ρ 7 = .pointer (some p79) ∧ F14_j1 p5 p79 t165 w' k) ?_ ?_
        · refine WC_region ?_
          refine WL_val gd0 ((o_move (v := .int .i64 r128) rfl) _) rfl ?_
          refine WL_val gd0 ((o_neq rfl rfl) _) rfl ?_
          refine WL_val gd0 ((o_move (v := .bool (decide (r128 ≠ 0))) rfl) _) rfl ?_
          refine bsplit (decide (r128 ≠ 0)) (fun hb217 => ?_) (fun hb217 => ?_)
          · rw [if_pos (of_decide_eq_true hb217)] at h
            refine WL_skip (gdN (b := (decide (r128 ≠ 0))) 90 rfl rfl hb217) rfl ?_
            refine WL_skip (gdN (b := (decide (r128 ≠ 0))) 90 rfl rfl hb217) rfl ?_
            refine WL_val gd0 ((o_pickT (v := .bool true) rfl hb217 rfl) _) rfl ?_
            refine WL_val gd0 ((o_move (v := .bool true) rfl) _) rfl ?_
            refine WL_skip (gdN (b := true) 94 rfl rfl rfl) rfl ?_
            refine WL_skip (gdN (b := true) 94 rfl rfl rfl) rfl ?_
            refine WL_skip (gdN (b := true) 94 rfl rfl rfl) rfl ?_
            refine WL_skip (gdN (b := true) 94 rfl rfl rfl) rfl ?_
            refine WL_skip (gdN (b := true) 94 rfl rfl rfl) rfl ?_
            refine WL_val gd0 ((o_pickT (v := .bool true) rfl rfl rfl) _) rfl ?_
            refine WL_nil ?_
            refine nrm ?_
            exact ⟨_, rfl, rfl, rfl, h⟩
          · rw [if_neg (of_decide_eq_false hb217)] at h
            refine WL_val (gdY (b := (decide (r128 ≠ 0))) 90 rfl rfl hb217) ((o_move (v := .int .i64 r161) rfl) _) rfl ?_
            refine WL_val (gdY (b := (decide (r128 ≠ 0))) 90 rfl rfl hb217) ((o_neq rfl rfl) _) rfl ?_
            refine WL_val gd0 ((o_pickF (v := .bool (decide (r161 ≠ 0))) rfl hb217 rfl) _) rfl ?_
            refine WL_val gd0 ((o_move (v := .bool (decide (r161 ≠ 0))) rfl) _) rfl ?_
            refine bsplit (decide (r161 ≠ 0)) (fun hb218 => ?_) (fun hb218 => ?_)
            · rw [if_pos (of_decide_eq_true hb218)] at h
              refine WL_skip (gdN (b := (decide (r161 ≠ 0))) 94 rfl rfl hb218) rfl ?_
              refine WL_skip (gdN (b := (decide (r161 ≠ 0))) 94 rfl rfl hb218) rfl ?_
              refine WL_skip (gdN (b := (decide (r161 ≠ 0))) 94 rfl rfl hb218) rfl ?_
              refine WL_skip (gdN (b := (decide (r161 ≠ 0))) 94 rfl rfl hb218) rfl ?_
              refine WL_skip (gdN (b := (decide (r161 ≠ 0))) 94 rfl rfl hb218) rfl ?_
              refine WL_val gd0 ((o_pickT (v := .bool true) rfl hb218 rfl) _) rfl ?_
              refine WL_nil ?_
              refine nrm ?_
              exact ⟨_, rfl, rfl, rfl, h⟩
            · rw [if_neg (of_decide_eq_false hb218)] at h
              refine WL_val (gdY (b := (decide (r161 ≠ 0))) 94 rfl rfl hb218) ((o_move (v := .slice r_a158 r_n159 r_c160) rfl) _) rfl ?_
              obtain ⟨s219, r220, h⟩ := h
              refine WL_val (gdY (b := (decide (r161 ≠ 0))) 94 rfl rfl hb218) (o_toStr Try.underlying22 Try.underlying5 Try.underlying9 rfl r220) rfl ?_
              refine WL_val (gdY (b := (decide (r161 ≠ 0))) 94 rfl rfl hb218) ((o_move (v := .slice b_a1 b_n2 b_c3) (by exact e0)) _) rfl ?_
              obtain ⟨s221, r222, h⟩ := h
              refine WL_val (gdY (b := (decide (r161 ≠ 0))) 94 rfl rfl hb218) (o_toStr Try.underlying22 Try.underlying5 Try.underlying9 rfl r222) rfl ?_
              refine WL_val (gdY (b := (decide (r161 ≠ 0))) 94 rfl rfl hb218) ((o_neqStr rfl rfl) _) rfl ?_
              refine WL_val gd0 ((o_pickF (v := .bool (!(s219.toList == s221.toList))) rfl hb218 rfl) _) rfl ?_
              refine WL_nil ?_
              refine nrm ?_
              exact ⟨_, rfl, rfl, rfl, h⟩
        · rintro ρ w166 ⟨t165, e100_164, e2_162, e7_163, h⟩
          unfold F14_j1 at h
          refine WC_cond (t := t165) (by exact e100_164) (fun hb167 => ?_) (fun hb167 => ?_)
          · rw [if_pos hb167] at h
            refine WC_seq ?_
            refine WC_region ?_
            refine WL_val gd0 ((o_build (ps := []) (v := .agg #[.int .i64 0, .int .i64 0, .int .i64 0, .int .i64 0, .int .i64 0, .slice none 0 0, .int .i64 0, .bool false, .bool false, .bool false, .int .i64 0, .int .i64 0]) partNil (fun w => by kernel_rfl)) _) rfl ?_
            obtain ⟨c169, h⟩ := h
            refine WL_act gd0 (o_storeAgg (vs := [.int .i64 0, .int .i64 0, .int .i64 0, .int .i64 0, .int .i64 0, .slice none 0 0, .int .i64 0, .bool false, .bool false, .bool false, .int .i64 0, .int .i64 0]) Try.sizeOf26 (by exact e2_162) rfl rfl c169) ?_
            generalize hw168 : setAll w166 p5 0 [.int .i64 0, .int .i64 0, .int .i64 0, .int .i64 0, .int .i64 0, .slice none 0 0, .int .i64 0, .bool false, .bool false, .bool false, .int .i64 0, .int .i64 0] = w168 at h ⊢
            try dsimp only at h
            refine WL_val gd0 ((o_assign (v := .int .i64 4) rfl) _) rfl ?_
            refine WL_nil ?_
            refine nrm ?_
            refine WC_ret ?_
            refine rtT ?_
            refine rtE ?_
            obtain ⟨r170, r171, r172, r173, r174, r_a175, r_n176, r_c177, r178, r179, r180, r181, r182, r183, hc184, h⟩ := h
            exact gvC1 (vs := [.int .i64 r170, .int .i64 r171, .int .i64 r172, .int .i64 r173, .int .i64 r174, .slice r_a175 r_n176 r_c177, .int .i64 r178, .bool r179, .bool r180, .bool r181, .int .i64 r182, .int .i64 r183]) rfl Try.isAgg26 Try.sizeOf26 (by exact e2_162) hc184 rfl h
          · rw [if_neg (neT hb167)] at h
            refine WC_skip ?_
            refine nrm ?_
            refine WC_seq ?_
            refine WC_region ?_
            obtain ⟨x185, x186, x187, x188, x189, x_a190, x_n191, x_c192, x193, x194, x195, x196, x197, x198, hc199, h⟩ := h
            refine WL_val gd0 (o_loadAgg (vs := [.int .i64 x185, .int .i64 x186, .int .i64 x187, .int .i64 x188, .int .i64 x189, .slice x_a190 x_n191 x_c192, .int .i64 x193, .bool x194, .bool x195, .bool x196, .int .i64 x197, .int .i64 x198]) Try.isAgg26 Try.sizeOf26 (by exact e7_163) hc199) rfl ?_
            obtain ⟨c201, h⟩ := h
            refine WL_act gd0 (o_storeAgg (vs := [.int .i64 x185, .int .i64 x186, .int .i64 x187, .int .i64 x188, .int .i64 x189, .slice x_a190 x_n191 x_c192, .int .i64 x193, .bool x194, .bool x195, .bool x196, .int .i64 x197, .int .i64 x198]) Try.sizeOf26 (by exact e2_162) rfl rfl c201) ?_
            generalize hw200 : setAll w166 p5 0 [.int .i64 x185, .int .i64 x186, .int .i64 x187, .int .i64 x188, .int .i64 x189, .slice x_a190 x_n191 x_c192, .int .i64 x193, .bool x194, .bool x195, .bool x196, .int .i64 x197, .int .i64 x198] = w200 at h ⊢
            try dsimp only at h
            refine WL_val gd0 ((o_assign (v := .int .i64 0) rfl) _) rfl ?_
            refine WL_nil ?_
            refine nrm ?_
            refine WC_ret ?_
            refine rtE ?_
            obtain ⟨r202, r203, r204, r205, r206, r_a207, r_n208, r_c209, r210, r211, r212, r213, r214, r215, hc216, h⟩ := h
            exact gvC1 (vs := [.int .i64 r202, .int .i64 r203, .int .i64 r204, .int .i64 r205, .int .i64 r206, .slice r_a207 r_n208 r_c209, .int .i64 r210, .bool r211, .bool r212, .bool r213, .int .i64 r214, .int .i64 r215]) rfl Try.isAgg26 Try.sizeOf26 (by exact e2_162) hc216 rfl h


end Go.Proofs.Ytpioadkiomcdlaa
