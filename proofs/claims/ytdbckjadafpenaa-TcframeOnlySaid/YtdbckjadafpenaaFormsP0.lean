/-
  The forms of the functions, and their walks: written by a program of this claim (gen.py) off the elaborated translation.
-/
import Derived.Test.YtdbckjadafpenaaProg
import Derived.Test.YtdbckjadafpenaaBase
import Derived.KernelRfl
namespace Go.Proofs.Ytdbckjadafpenaa
open Go Go.Sh Go.Proofs
set_option linter.unusedVariables false
theorem Try.mixed : Try.prog.follows .mixedOrders = true := by kernel_rfl
/-- spacecraft spacecraftlaw14.TcframeEncodes -/
def F3 (f1 : Bool) (f2 : Bool) (f3 : Int) (f4 : Int) (f5 : Int) (f_a6 : Option Addr) (f_n7 : Nat) (f_c8 : Nat) (w9 : World) (k : Value → World → Prop) : Prop :=
  New w9 24 [.bool f1, .bool f2, .int .i64 f3, .int .i64 f4, .int .i64 f5, .slice f_a6 f_n7 f_c8] (fun p10 w11 => ∃ (x_a12 : Option Addr) (x_n13 x_c14 : Nat), w11.cell? (p10.add 5) = some (.slice x_a12 x_n13 x_c14) ∧ if 1100 < (x_n13 : Int) then
  Does Try.prog 8 #[] w11 (fun v w17 => ∃ (t18 : Bool), v = .bool t18 ∧ k (.bool t18) w17)
else
  ∃ (x19 x20 : Bool) (x21 x22 x23 : Int) (x_a24 : Option Addr) (x_n25 x_c26 : Nat), Cells w11 p10 0 [.bool x19, .bool x20, .int .i64 x21, .int .i64 x22, .int .i64 x23, .slice x_a24 x_n25 x_c26] ∧ Does Try.prog 9 #[.agg #[.bool x19, .bool x20, .int .i64 x21, .int .i64 x22, .int .i64 x23, .slice x_a24 x_n25 x_c26]] w11 (fun v w28 => ∃ (r_a29 : Option Addr) (r_n30 r_c31 : Nat) (r32 : Int), v = .tuple #[.slice r_a29 r_n30 r_c31, .int .i64 r32] ∧ ∃ (x33 x34 : Bool) (x35 x36 x37 : Int) (x_a38 : Option Addr) (x_n39 x_c40 : Nat), Cells w28 p10 0 [.bool x33, .bool x34, .int .i64 x35, .int .i64 x36, .int .i64 x37, .slice x_a38 x_n39 x_c40] ∧ Does Try.prog 10 #[.agg #[.bool x33, .bool x34, .int .i64 x35, .int .i64 x36, .int .i64 x37, .slice x_a38 x_n39 x_c40]] w28 (fun v w42 => ∃ (r_a43 : Option Addr) (r_n44 r_c45 : Nat) (r46 : Int), v = .tuple #[.slice r_a43 r_n44 r_c45, .int .i64 r46] ∧ ∃ (x47 x48 : Bool) (x49 x50 x51 : Int) (x_a52 : Option Addr) (x_n53 x_c54 : Nat), Cells w42 p10 0 [.bool x47, .bool x48, .int .i64 x49, .int .i64 x50, .int .i64 x51, .slice x_a52 x_n53 x_c54] ∧ Does Try.prog 11 #[.agg #[.bool x47, .bool x48, .int .i64 x49, .int .i64 x50, .int .i64 x51, .slice x_a52 x_n53 x_c54]] w42 (fun v w56 => ∃ (r57 r58 : Int) (r59 : Bool), v = .tuple #[.int .i64 r57, .int .i64 r58, .bool r59] ∧ ∃ (x60 x61 : Bool) (x62 x63 x64 : Int) (x_a65 : Option Addr) (x_n66 x_c67 : Nat), Cells w56 p10 0 [.bool x60, .bool x61, .int .i64 x62, .int .i64 x63, .int .i64 x64, .slice x_a65 x_n66 x_c67] ∧ Does Try.prog 12 #[.agg #[.bool x60, .bool x61, .int .i64 x62, .int .i64 x63, .int .i64 x64, .slice x_a65 x_n66 x_c67]] w56 (fun v w69 => ∃ (r70 r71 : Int) (r72 : Bool), v = .tuple #[.int .i64 r70, .int .i64 r71, .bool r72] ∧ ∃ (x73 x74 : Bool) (x75 x76 x77 : Int) (x_a78 : Option Addr) (x_n79 x_c80 : Nat), Cells w69.drew p10 0 [.bool x73, .bool x74, .int .i64 x75, .int .i64 x76, .int .i64 x77, .slice x_a78 x_n79 x_c80] ∧ ∃ (x82 x83 : Bool) (x84 x85 x86 : Int) (x_a87 : Option Addr) (x_n88 x_c89 : Nat), Cells w69.drew p10 0 [.bool x82, .bool x83, .int .i64 x84, .int .i64 x85, .int .i64 x86, .slice x_a87 x_n88 x_c89] ∧ Does Try.prog 13 #[.agg #[.bool x73, .bool x74, .int .i64 x75, .int .i64 x76, .int .i64 x77, .slice x_a78 x_n79 x_c80]] w69.drew (fun v w91 => ∃ (x92 : Bool), v = .bool x92 ∧ Cells w91 p10 0 [.bool x82, .bool x83, .int .i64 x84, .int .i64 x85, .int .i64 x86, .slice x_a87 x_n88 x_c89] ∧ Does Try.prog 14 #[.agg #[.bool x82, .bool x83, .int .i64 x84, .int .i64 x85, .int .i64 x86, .slice x_a87 x_n88 x_c89]] w91 (fun v w94 => ∃ (x95 : Bool), v = .bool x95 ∧ if (x92 == x95) = true then
    ∃ (s97 : ByteArray), (Conv.bytesToString (.slice r_a29 r_n30 r_c31)).run Try.prog w94 = .ok (.string s97) w94 ∧ ∃ (s99 : ByteArray), (Conv.bytesToString (.slice r_a43 r_n44 r_c45)).run Try.prog w94 = .ok (.string s99) w94 ∧ if (s97.toList == s99.toList) = true then
      if r32 = r46 then
        if r57 = r70 then
          if r58 = r71 then
            if (r59 == r72) = true then
              Does Try.prog 8 #[] w94 (fun v w106 => ∃ (x107 : Bool), v = .bool x107 ∧ k (.bool x107) w106)
            else
              k (.bool false) w94
          else
            k (.bool false) w94
        else
          k (.bool false) w94
      else
        k (.bool false) w94
    else
      k (.bool false) w94
  else
    k (.bool false) w94)))))))
set_option maxRecDepth 100000 in
set_option maxHeartbeats 2000000 in
theorem w3 (f1 : Bool) (f2 : Bool) (f3 : Int) (f4 : Int) (f5 : Int) (f_a6 : Option Addr) (f_n7 : Nat) (f_c8 : Nat) (w9 : World) (k : Value → World → Prop) (h : F3 f1 f2 f3 f4 f5 f_a6 f_n7 f_c8 w9 k) : Does Try.prog 3 #[.agg #[.bool f1, .bool f2, .int .i64 f3, .int .i64 f4, .int .i64 f5, .slice f_a6 f_n7 f_c8]] w9 k := by
  refine enter 75 Try.func3 rfl rfl rfl ?_
  intro ρ hρ
  have e0 := hρ 0 _ rfl
  unfold F3 at h
  refine WC_seq ?_
  refine WC_region ?_
  have h := New.out h
  refine WL_val gd0 (o_box (v := .agg #[.bool f1, .bool f2, .int .i64 f3, .int .i64 f4, .int .i64 f5, .slice f_a6 f_n7 f_c8]) (cs := [.bool f1, .bool f2, .int .i64 f3, .int .i64 f4, .int .i64 f5, .slice f_a6 f_n7 f_c8]) (by exact e0) rfl) rfl ?_
  generalize hp10 : fresh w9 = p10 at h ⊢
  generalize hw11 : push w9 24 [.bool f1, .bool f2, .int .i64 f3, .int .i64 f4, .int .i64 f5, .slice f_a6 f_n7 f_c8] = w11 at h ⊢
  try dsimp only at h
  refine WL_val gd0 ((o_assign (v := .bool false) rfl) _) rfl ?_
  refine WL_nil ?_
  refine nrm ?_
  refine WC_seq ?_
  refine WC_seq ?_
  refine WC_region ?_
  refine WL_val gd0 ((o_fieldAddr 5 Try.underlying24 rfl Try.sizeOf22 rfl rfl rfl) _) rfl ?_
  obtain ⟨x_a12, x_n13, x_c14, hc15, h⟩ := h
  refine WL_val gd0 (o_load Try.isAgg22 rfl hc15) rfl ?_
  refine WL_val gd0 ((o_len Try.underlying22 rfl) _) rfl ?_
  refine WL_val gd0 ((o_gtr rfl rfl) _) rfl ?_
  refine WL_nil ?_
  refine nrm ?_
  refine WC_cond (t := (decide (1100 < (x_n13 : Int)))) rfl (fun hb16 => ?_) (fun hb16 => ?_)
  · rw [if_pos (of_decide_eq_true hb16)] at h
    refine WC_seq ?_
    refine WC_region ?_
    refine WL_call gd0 (o_call Try.call8 argNil _) rfl (h.mono ?_)
    rintro _ w17 ⟨t18, rfl, h⟩
    refine WL_val gd0 ((o_assign (v := .bool t18) rfl) _) rfl ?_
    refine WL_nil ?_
    refine nrm ?_
    refine WC_ret ?_
    refine rtT ?_
    refine rtE ?_
    exact gv1 rfl rfl h
  · rw [if_neg (of_decide_eq_false hb16)] at h
    refine WC_skip ?_
    refine nrm ?_
    refine WC_seq ?_
    refine WC_region ?_
    obtain ⟨x19, x20, x21, x22, x23, x_a24, x_n25, x_c26, hc27, h⟩ := h
    refine WL_val gd0 (o_loadAgg (vs := [.bool x19, .bool x20, .int .i64 x21, .int .i64 x22, .int .i64 x23, .slice x_a24 x_n25 x_c26]) Try.isAgg24 Try.sizeOf24 rfl hc27) rfl ?_
    refine WL_call gd0 (o_call Try.call9 (argCons rfl argNil) _) rfl (h.mono ?_)
    rintro _ w28 ⟨r_a29, r_n30, r_c31, r32, rfl, h⟩
    refine WL_val gd0 ((o_move (v := .tuple #[.slice r_a29 r_n30 r_c31, .int .i64 r32]) rfl) _) rfl ?_
    refine WL_val gd0 ((o_extract (vs := [.slice r_a29 r_n30 r_c31, .int .i64 r32]) (r := .slice r_a29 r_n30 r_c31) rfl rfl) _) rfl ?_
    refine WL_val gd0 ((o_extract (vs := [.slice r_a29 r_n30 r_c31, .int .i64 r32]) (r := .int .i64 r32) rfl rfl) _) rfl ?_
    refine WL_val gd0 ((o_assign (v := .slice r_a29 r_n30 r_c31) rfl) _) rfl ?_
    refine WL_val gd0 ((o_assign (v := .int .i64 r32) rfl) _) rfl ?_
    refine WL_nil ?_
    refine nrm ?_
    refine WC_seq ?_
    refine WC_region ?_
    obtain ⟨x33, x34, x35, x36, x37, x_a38, x_n39, x_c40, hc41, h⟩ := h
    refine WL_val gd0 (o_loadAgg (vs := [.bool x33, .bool x34, .int .i64 x35, .int .i64 x36, .int .i64 x37, .slice x_a38 x_n39 x_c40]) Try.isAgg24 Try.sizeOf24 rfl hc41) rfl ?_
    refine WL_call gd0 (o_call Try.call10 (argCons rfl argNil) _) rfl (h.mono ?_)
    rintro _ w42 ⟨r_a43, r_n44, r_c45, r46, rfl, h⟩
    refine WL_val gd0 ((o_move (v := .tuple #[.slice r_a43 r_n44 r_c45, .int .i64 r46]) rfl) _) rfl ?_
    refine WL_val gd0 ((o_extract (vs := [.slice r_a43 r_n44 r_c45, .int .i64 r46]) (r := .slice r_a43 r_n44 r_c45) rfl rfl) _) rfl ?_
    refine WL_val gd0 ((o_extract (vs := [.slice r_a43 r_n44 r_c45, .int .i64 r46]) (r := .int .i64 r46) rfl rfl) _) rfl ?_
    refine WL_val gd0 ((o_assign (v := .slice r_a43 r_n44 r_c45) rfl) _) rfl ?_
    refine WL_val gd0 ((o_assign (v := .int .i64 r46) rfl) _) rfl ?_
    refine WL_nil ?_
    refine nrm ?_
    refine WC_seq ?_
    refine WC_region ?_
    obtain ⟨x47, x48, x49, x50, x51, x_a52, x_n53, x_c54, hc55, h⟩ := h
    refine WL_val gd0 (o_loadAgg (vs := [.bool x47, .bool x48, .int .i64 x49, .int .i64 x50, .int .i64 x51, .slice x_a52 x_n53 x_c54]) Try.isAgg24 Try.sizeOf24 rfl hc55) rfl ?_
    refine WL_call gd0 (o_call Try.call11 (argCons rfl argNil) _) rfl (h.mono ?_)
    rintro _ w56 ⟨r57, r58, r59, rfl, h⟩
    refine WL_val gd0 ((o_move (v := .tuple #[.int .i64 r57, .int .i64 r58, .bool r59]) rfl) _) rfl ?_
    refine WL_val gd0 ((o_extract (vs := [.int .i64 r57, .int .i64 r58, .bool r59]) (r := .int .i64 r57) rfl rfl) _) rfl ?_
    refine WL_val gd0 ((o_extract (vs := [.int .i64 r57, .int .i64 r58, .bool r59]) (r := .int .i64 r58) rfl rfl) _) rfl ?_
    refine WL_val gd0 ((o_extract (vs := [.int .i64 r57, .int .i64 r58, .bool r59]) (r := .bool r59) rfl rfl) _) rfl ?_
    refine WL_val gd0 ((o_assign (v := .int .i64 r57) rfl) _) rfl ?_
    refine WL_val gd0 ((o_assign (v := .int .i64 r58) rfl) _) rfl ?_
    refine WL_val gd0 ((o_assign (v := .bool r59) rfl) _) rfl ?_
    refine WL_nil ?_
    refine nrm ?_
    refine WC_seq ?_
    refine WC_region ?_
    obtain ⟨x60, x61, x62, x63, x64, x_a65, x_n66, x_c67, hc68, h⟩ := h
    refine WL_val gd0 (o_loadAgg (vs := [.bool x60, .bool x61, .int .i64 x62, .int .i64 x63, .int .i64 x64, .slice x_a65 x_n66 x_c67]) Try.isAgg24 Try.sizeOf24 rfl hc68) rfl ?_
    refine WL_call gd0 (o_call Try.call12 (argCons rfl argNil) _) rfl (h.mono ?_)
    rintro _ w69 ⟨r70, r71, r72, rfl, h⟩
    refine WL_val gd0 ((o_move (v := .tuple #[.int .i64 r70, .int .i64 r71, .bool r72]) rfl) _) rfl ?_
    refine WL_val gd0 ((o_extract (vs := [.int .i64 r70, .int .i64 r71, .bool r72]) (r := .int .i64 r70) rfl rfl) _) rfl ?_
    refine WL_val gd0 ((o_extract (vs := [.int .i64 r70, .int .i64 r71, .bool r72]) (r := .int .i64 r71) rfl rfl) _) rfl ?_
    refine WL_val gd0 ((o_extract (vs := [.int .i64 r70, .int .i64 r71, .bool r72]) (r := .bool r72) rfl rfl) _) rfl ?_
    refine WL_val gd0 ((o_assign (v := .int .i64 r70) rfl) _) rfl ?_
    refine WL_val gd0 ((o_assign (v := .int .i64 r71) rfl) _) rfl ?_
    refine WL_val gd0 ((o_assign (v := .bool r72) rfl) _) rfl ?_
    refine WL_nil ?_
    refine nrm ?_
    refine WC_seq ?_
    refine WC_draws [1, 3, 33] (.look 0 (.look 2 (.act 1 (.act 3 (.look 4 (.look 5 (.look 6 (.look 7 (.look 8 (.look 9 (.look 10 (.look 11 (.look 12 (.look 13 (.look 14 (.look 15 (.look 16 (.look 17 (.look 18 (.look 19 (.look 20 (.look 21 (.look 22 (.look 23 (.look 24 (.look 25 (.look 26 (.look 27 (.look 28 (.look 29 (.look 30 (.look 31 (.look 32 (.act 33 (.look 34 (.look 35 .nil)))))))))))))))))))))))))))))))))))) Try.mixed (by kernel_rfl) ?_
    obtain ⟨x73, x74, x75, x76, x77, x_a78, x_n79, x_c80, hc81, h⟩ := h
    refine WQ_look (fun w => Cells w p10 0 [.bool x73, .bool x74, .int .i64 x75, .int .i64 x76, .int .i64 x77, .slice x_a78 x_n79 x_c80]) rfl gd0 (fun w hc => (o_loadAgg (vs := [.bool x73, .bool x74, .int .i64 x75, .int .i64 x76, .int .i64 x77, .slice x_a78 x_n79 x_c80]) Try.isAgg24 Try.sizeOf24 rfl hc)) hc81 rfl ?_
    obtain ⟨x82, x83, x84, x85, x86, x_a87, x_n88, x_c89, hc90, h⟩ := h
    refine WQ_look (fun w => Cells w p10 0 [.bool x82, .bool x83, .int .i64 x84, .int .i64 x85, .int .i64 x86, .slice x_a87 x_n88 x_c89]) rfl gd0 (fun w hc => (o_loadAgg (vs := [.bool x82, .bool x83, .int .i64 x84, .int .i64 x85, .int .i64 x86, .slice x_a87 x_n88 x_c89]) Try.isAgg24 Try.sizeOf24 rfl hc)) hc90 rfl ?_
    refine WQ_call rfl gd0 (o_call Try.call13 (argCons rfl argNil) _) rfl (h.mono ?_)
    rintro _ w91 ⟨x92, rfl, hh93, h⟩
    refine ⟨⟨⟨trivial, depT (by kernel_rfl)⟩, fun _ => hh93⟩, ?_⟩
    refine WQ_call rfl gd0 (o_call Try.call14 (argCons rfl argNil) _) rfl (h.mono ?_)
    rintro _ w94 ⟨x95, rfl, h⟩
    refine ⟨⟨⟨trivial, depT (by kernel_rfl)⟩, depT (by kernel_rfl)⟩, ?_⟩
    refine WQ_val rfl gd0 (o_eqlBool Try.underlying4 rfl rfl) rfl ?_
    refine WQ_val rfl gd0 (o_move (v := .bool (x92 == x95)) rfl) rfl ?_
    refine bsplit (x92 == x95) (fun hb96 => ?_) (fun hb96 => ?_)
    · rw [if_pos hb96] at h
      refine WQ_val rfl (gdY (b := (x92 == x95)) 45 rfl rfl hb96) (o_move (v := .slice r_a29 r_n30 r_c31) rfl) rfl ?_
      obtain ⟨s97, r98, h⟩ := h
      refine WQ_look (fun w => (Conv.bytesToString (.slice r_a29 r_n30 r_c31)).run Try.prog w = .ok (.string s97) w) rfl (gdY (b := (x92 == x95)) 45 rfl rfl hb96) (fun w hc => (o_toStr Try.underlying22 Try.underlying5 Try.underlying9 rfl hc)) r98 rfl ?_
      refine WQ_val rfl (gdY (b := (x92 == x95)) 45 rfl rfl hb96) (o_move (v := .slice r_a43 r_n44 r_c45) rfl) rfl ?_
      obtain ⟨s99, r100, h⟩ := h
      refine WQ_look (fun w => (Conv.bytesToString (.slice r_a43 r_n44 r_c45)).run Try.prog w = .ok (.string s99) w) rfl (gdY (b := (x92 == x95)) 45 rfl rfl hb96) (fun w hc => (o_toStr Try.underlying22 Try.underlying5 Try.underlying9 rfl hc)) r100 rfl ?_
      refine WQ_val rfl (gdY (b := (x92 == x95)) 45 rfl rfl hb96) (o_eqlStr rfl rfl) rfl ?_
      refine WQ_val rfl gd0 (o_pickT (v := .bool (s97.toList == s99.toList)) rfl hb96 rfl) rfl ?_
      refine WQ_val rfl gd0 (o_move (v := .bool (s97.toList == s99.toList)) rfl) rfl ?_
      refine bsplit (s97.toList == s99.toList) (fun hb101 => ?_) (fun hb101 => ?_)
      · rw [if_pos hb101] at h
        refine WQ_val rfl (gdY (b := (s97.toList == s99.toList)) 52 rfl rfl hb101) (o_move (v := .int .i64 r32) rfl) rfl ?_
        refine WQ_val rfl (gdY (b := (s97.toList == s99.toList)) 52 rfl rfl hb101) (o_move (v := .int .i64 r46) rfl) rfl ?_
        refine WQ_val rfl (gdY (b := (s97.toList == s99.toList)) 52 rfl rfl hb101) (o_eql rfl rfl) rfl ?_
        refine WQ_val rfl gd0 (o_pickT (v := .bool (decide (r32 = r46))) rfl hb101 rfl) rfl ?_
        refine WQ_val rfl gd0 (o_move (v := .bool (decide (r32 = r46))) rfl) rfl ?_
        refine bsplit (decide (r32 = r46)) (fun hb102 => ?_) (fun hb102 => ?_)
        · rw [if_pos (of_decide_eq_true hb102)] at h
          refine WQ_val rfl (gdY (b := (decide (r32 = r46))) 57 rfl rfl hb102) (o_move (v := .int .i64 r57) rfl) rfl ?_
          refine WQ_val rfl (gdY (b := (decide (r32 = r46))) 57 rfl rfl hb102) (o_move (v := .int .i64 r70) rfl) rfl ?_
          refine WQ_val rfl (gdY (b := (decide (r32 = r46))) 57 rfl rfl hb102) (o_eql rfl rfl) rfl ?_
          refine WQ_val rfl gd0 (o_pickT (v := .bool (decide (r57 = r70))) rfl hb102 rfl) rfl ?_
          refine WQ_val rfl gd0 (o_move (v := .bool (decide (r57 = r70))) rfl) rfl ?_
          refine bsplit (decide (r57 = r70)) (fun hb103 => ?_) (fun hb103 => ?_)
          · rw [if_pos (of_decide_eq_true hb103)] at h
            refine WQ_val rfl (gdY (b := (decide (r57 = r70))) 62 rfl rfl hb103) (o_move (v := .int .i64 r58) rfl) rfl ?_
            refine WQ_val rfl (gdY (b := (decide (r57 = r70))) 62 rfl rfl hb103) (o_move (v := .int .i64 r71) rfl) rfl ?_
            refine WQ_val rfl (gdY (b := (decide (r57 = r70))) 62 rfl rfl hb103) (o_eql rfl rfl) rfl ?_
            refine WQ_val rfl gd0 (o_pickT (v := .bool (decide (r58 = r71))) rfl hb103 rfl) rfl ?_
            refine WQ_val rfl gd0 (o_move (v := .bool (decide (r58 = r71))) rfl) rfl ?_
            refine bsplit (decide (r58 = r71)) (fun hb104 => ?_) (fun hb104 => ?_)
            · rw [if_pos (of_decide_eq_true hb104)] at h
              refine WQ_val rfl (gdY (b := (decide (r58 = r71))) 67 rfl rfl hb104) (o_move (v := .bool r59) rfl) rfl ?_
              refine WQ_val rfl (gdY (b := (decide (r58 = r71))) 67 rfl rfl hb104) (o_move (v := .bool r72) rfl) rfl ?_
              refine WQ_val rfl (gdY (b := (decide (r58 = r71))) 67 rfl rfl hb104) (o_eqlBool Try.underlying4 rfl rfl) rfl ?_
              refine WQ_val rfl gd0 (o_pickT (v := .bool (r59 == r72)) rfl hb104 rfl) rfl ?_
              refine WQ_val rfl gd0 (o_move (v := .bool (r59 == r72)) rfl) rfl ?_
              refine bsplit (r59 == r72) (fun hb105 => ?_) (fun hb105 => ?_)
              · rw [if_pos hb105] at h
                refine WQ_call rfl (gdY (b := (r59 == r72)) 72 rfl rfl hb105) (o_call Try.call8 argNil _) rfl (h.mono ?_)
                rintro _ w106 ⟨x107, rfl, h⟩
                refine ⟨⟨⟨⟨⟨trivial, depT (by kernel_rfl)⟩, depT (by kernel_rfl)⟩, depT (by kernel_rfl)⟩, depT (by kernel_rfl)⟩, ?_⟩
                refine WQ_val rfl gd0 (o_pickT (v := .bool x107) rfl hb105 rfl) rfl ?_
                refine WQ_val rfl gd0 (o_assign (v := .bool x107) rfl) rfl ?_
                refine WQ_nil ?_
                refine nrm ?_
                refine WC_ret ?_
                refine rtE ?_
                exact gv1 rfl rfl h
              · rw [if_neg (neT hb105)] at h
                refine WQ_passAct rfl (gdN (b := (r59 == r72)) 72 rfl rfl hb105) rfl (by exact ⟨⟨⟨⟨trivial, depT (by kernel_rfl)⟩, depT (by kernel_rfl)⟩, depT (by kernel_rfl)⟩, depT (by kernel_rfl)⟩) ?_
                refine WQ_val rfl gd0 (o_pickF (v := .bool false) rfl hb105 rfl) rfl ?_
                refine WQ_val rfl gd0 (o_assign (v := .bool false) rfl) rfl ?_
                refine WQ_nil ?_
                refine nrm ?_
                refine WC_ret ?_
                refine rtE ?_
                exact gv1 rfl rfl h
            · rw [if_neg (of_decide_eq_false hb104)] at h
              refine WQ_skip rfl (gdN (b := (decide (r58 = r71))) 67 rfl rfl hb104) rfl ?_
              refine WQ_skip rfl (gdN (b := (decide (r58 = r71))) 67 rfl rfl hb104) rfl ?_
              refine WQ_skip rfl (gdN (b := (decide (r58 = r71))) 67 rfl rfl hb104) rfl ?_
              refine WQ_val rfl gd0 (o_pickF (v := .bool false) rfl hb104 rfl) rfl ?_
              refine WQ_val rfl gd0 (o_move (v := .bool false) rfl) rfl ?_
              refine WQ_passAct rfl (gdN (b := false) 72 rfl rfl rfl) rfl (by exact ⟨⟨⟨⟨trivial, depT (by kernel_rfl)⟩, depT (by kernel_rfl)⟩, depT (by kernel_rfl)⟩, depT (by kernel_rfl)⟩) ?_
              refine WQ_val rfl gd0 (o_pickF (v := .bool false) rfl rfl rfl) rfl ?_
              refine WQ_val rfl gd0 (o_assign (v := .bool false) rfl) rfl ?_
              refine WQ_nil ?_
              refine nrm ?_
              refine WC_ret ?_
              refine rtE ?_
              exact gv1 rfl rfl h
          · rw [if_neg (of_decide_eq_false hb103)] at h
            refine WQ_skip rfl (gdN (b := (decide (r57 = r70))) 62 rfl rfl hb103) rfl ?_
            refine WQ_skip rfl (gdN (b := (decide (r57 = r70))) 62 rfl rfl hb103) rfl ?_
            refine WQ_skip rfl (gdN (b := (decide (r57 = r70))) 62 rfl rfl hb103) rfl ?_
            refine WQ_val rfl gd0 (o_pickF (v := .bool false) rfl hb103 rfl) rfl ?_
            refine WQ_val rfl gd0 (o_move (v := .bool false) rfl) rfl ?_
            refine WQ_skip rfl (gdN (b := false) 67 rfl rfl rfl) rfl ?_
            refine WQ_skip rfl (gdN (b := false) 67 rfl rfl rfl) rfl ?_
            refine WQ_skip rfl (gdN (b := false) 67 rfl rfl rfl) rfl ?_
            refine WQ_val rfl gd0 (o_pickF (v := .bool false) rfl rfl rfl) rfl ?_
            refine WQ_val rfl gd0 (o_move (v := .bool false) rfl) rfl ?_
            refine WQ_passAct rfl (gdN (b := false) 72 rfl rfl rfl) rfl (by exact ⟨⟨⟨⟨trivial, depT (by kernel_rfl)⟩, depT (by kernel_rfl)⟩, depT (by kernel_rfl)⟩, depT (by kernel_rfl)⟩) ?_
            refine WQ_val rfl gd0 (o_pickF (v := .bool false) rfl rfl rfl) rfl ?_
            refine WQ_val rfl gd0 (o_assign (v := .bool false) rfl) rfl ?_
            refine WQ_nil ?_
            refine nrm ?_
            refine WC_ret ?_
            refine rtE ?_
            exact gv1 rfl rfl h
        · rw [if_neg (of_decide_eq_false hb102)] at h
          refine WQ_skip rfl (gdN (b := (decide (r32 = r46))) 57 rfl rfl hb102) rfl ?_
          refine WQ_skip rfl (gdN (b := (decide (r32 = r46))) 57 rfl rfl hb102) rfl ?_
          refine WQ_skip rfl (gdN (b := (decide (r32 = r46))) 57 rfl rfl hb102) rfl ?_
          refine WQ_val rfl gd0 (o_pickF (v := .bool false) rfl hb102 rfl) rfl ?_
          refine WQ_val rfl gd0 (o_move (v := .bool false) rfl) rfl ?_
          refine WQ_skip rfl (gdN (b := false) 62 rfl rfl rfl) rfl ?_
          refine WQ_skip rfl (gdN (b := false) 62 rfl rfl rfl) rfl ?_
          refine WQ_skip rfl (gdN (b := false) 62 rfl rfl rfl) rfl ?_
          refine WQ_val rfl gd0 (o_pickF (v := .bool false) rfl rfl rfl) rfl ?_
          refine WQ_val rfl gd0 (o_move (v := .bool false) rfl) rfl ?_
          refine WQ_skip rfl (gdN (b := false) 67 rfl rfl rfl) rfl ?_
          refine WQ_skip rfl (gdN (b := false) 67 rfl rfl rfl) rfl ?_
          refine WQ_skip rfl (gdN (b := false) 67 rfl rfl rfl) rfl ?_
          refine WQ_val rfl gd0 (o_pickF (v := .bool false) rfl rfl rfl) rfl ?_
          refine WQ_val rfl gd0 (o_move (v := .bool false) rfl) rfl ?_
          refine WQ_passAct rfl (gdN (b := false) 72 rfl rfl rfl) rfl (by exact ⟨⟨⟨⟨trivial, depT (by kernel_rfl)⟩, depT (by kernel_rfl)⟩, depT (by kernel_rfl)⟩, depT (by kernel_rfl)⟩) ?_
          refine WQ_val rfl gd0 (o_pickF (v := .bool false) rfl rfl rfl) rfl ?_
          refine WQ_val rfl gd0 (o_assign (v := .bool false) rfl) rfl ?_
          refine WQ_nil ?_
          refine nrm ?_
          refine WC_ret ?_
          refine rtE ?_
          exact gv1 rfl rfl h
      · rw [if_neg (neT hb101)] at h
        refine WQ_skip rfl (gdN (b := (s97.toList == s99.toList)) 52 rfl rfl hb101) rfl ?_
        refine WQ_skip rfl (gdN (b := (s97.toList == s99.toList)) 52 rfl rfl hb101) rfl ?_
        refine WQ_skip rfl (gdN (b := (s97.toList == s99.toList)) 52 rfl rfl hb101) rfl ?_
        refine WQ_val rfl gd0 (o_pickF (v := .bool false) rfl hb101 rfl) rfl ?_
        refine WQ_val rfl gd0 (o_move (v := .bool false) rfl) rfl ?_
        refine WQ_skip rfl (gdN (b := false) 57 rfl rfl rfl) rfl ?_
        refine WQ_skip rfl (gdN (b := false) 57 rfl rfl rfl) rfl ?_
        refine WQ_skip rfl (gdN (b := false) 57 rfl rfl rfl) rfl ?_
        refine WQ_val rfl gd0 (o_pickF (v := .bool false) rfl rfl rfl) rfl ?_
        refine WQ_val rfl gd0 (o_move (v := .bool false) rfl) rfl ?_
        refine WQ_skip rfl (gdN (b := false) 62 rfl rfl rfl) rfl ?_
        refine WQ_skip rfl (gdN (b := false) 62 rfl rfl rfl) rfl ?_
        refine WQ_skip rfl (gdN (b := false) 62 rfl rfl rfl) rfl ?_
        refine WQ_val rfl gd0 (o_pickF (v := .bool false) rfl rfl rfl) rfl ?_
        refine WQ_val rfl gd0 (o_move (v := .bool false) rfl) rfl ?_
        refine WQ_skip rfl (gdN (b := false) 67 rfl rfl rfl) rfl ?_
        refine WQ_skip rfl (gdN (b := false) 67 rfl rfl rfl) rfl ?_
        refine WQ_skip rfl (gdN (b := false) 67 rfl rfl rfl) rfl ?_
        refine WQ_val rfl gd0 (o_pickF (v := .bool false) rfl rfl rfl) rfl ?_
        refine WQ_val rfl gd0 (o_move (v := .bool false) rfl) rfl ?_
        refine WQ_passAct rfl (gdN (b := false) 72 rfl rfl rfl) rfl (by exact ⟨⟨⟨⟨trivial, depT (by kernel_rfl)⟩, depT (by kernel_rfl)⟩, depT (by kernel_rfl)⟩, depT (by kernel_rfl)⟩) ?_
        refine WQ_val rfl gd0 (o_pickF (v := .bool false) rfl rfl rfl) rfl ?_
        refine WQ_val rfl gd0 (o_assign (v := .bool false) rfl) rfl ?_
        refine WQ_nil ?_
        refine nrm ?_
        refine WC_ret ?_
        refine rtE ?_
        exact gv1 rfl rfl h
    · rw [if_neg (neT hb96)] at h
      refine WQ_skip rfl (gdN (b := (x92 == x95)) 45 rfl rfl hb96) rfl ?_
      refine WQ_skip rfl (gdN (b := (x92 == x95)) 45 rfl rfl hb96) rfl ?_
      refine WQ_skip rfl (gdN (b := (x92 == x95)) 45 rfl rfl hb96) rfl ?_
      refine WQ_skip rfl (gdN (b := (x92 == x95)) 45 rfl rfl hb96) rfl ?_
      refine WQ_skip rfl (gdN (b := (x92 == x95)) 45 rfl rfl hb96) rfl ?_
      refine WQ_val rfl gd0 (o_pickF (v := .bool false) rfl hb96 rfl) rfl ?_
      refine WQ_val rfl gd0 (o_move (v := .bool false) rfl) rfl ?_
      refine WQ_skip rfl (gdN (b := false) 52 rfl rfl rfl) rfl ?_
      refine WQ_skip rfl (gdN (b := false) 52 rfl rfl rfl) rfl ?_
      refine WQ_skip rfl (gdN (b := false) 52 rfl rfl rfl) rfl ?_
      refine WQ_val rfl gd0 (o_pickF (v := .bool false) rfl rfl rfl) rfl ?_
      refine WQ_val rfl gd0 (o_move (v := .bool false) rfl) rfl ?_
      refine WQ_skip rfl (gdN (b := false) 57 rfl rfl rfl) rfl ?_
      refine WQ_skip rfl (gdN (b := false) 57 rfl rfl rfl) rfl ?_
      refine WQ_skip rfl (gdN (b := false) 57 rfl rfl rfl) rfl ?_
      refine WQ_val rfl gd0 (o_pickF (v := .bool false) rfl rfl rfl) rfl ?_
      refine WQ_val rfl gd0 (o_move (v := .bool false) rfl) rfl ?_
      refine WQ_skip rfl (gdN (b := false) 62 rfl rfl rfl) rfl ?_
      refine WQ_skip rfl (gdN (b := false) 62 rfl rfl rfl) rfl ?_
      refine WQ_skip rfl (gdN (b := false) 62 rfl rfl rfl) rfl ?_
      refine WQ_val rfl gd0 (o_pickF (v := .bool false) rfl rfl rfl) rfl ?_
      refine WQ_val rfl gd0 (o_move (v := .bool false) rfl) rfl ?_
      refine WQ_skip rfl (gdN (b := false) 67 rfl rfl rfl) rfl ?_
      refine WQ_skip rfl (gdN (b := false) 67 rfl rfl rfl) rfl ?_
      refine WQ_skip rfl (gdN (b := false) 67 rfl rfl rfl) rfl ?_
      refine WQ_val rfl gd0 (o_pickF (v := .bool false) rfl rfl rfl) rfl ?_
      refine WQ_val rfl gd0 (o_move (v := .bool false) rfl) rfl ?_
      refine WQ_passAct rfl (gdN (b := false) 72 rfl rfl rfl) rfl (by exact ⟨⟨trivial, depT (by kernel_rfl)⟩, depT (by kernel_rfl)⟩) ?_
      refine WQ_val rfl gd0 (o_pickF (v := .bool false) rfl rfl rfl) rfl ?_
      refine WQ_val rfl gd0 (o_assign (v := .bool false) rfl) rfl ?_
      refine WQ_nil ?_
      refine nrm ?_
      refine WC_ret ?_
      refine rtE ?_
      exact gv1 rfl rfl h

/-- spacecraft spacecraftlaw14.TcframeDecodes -/
def F4 (b_a1 : Option Addr) (b_n2 : Nat) (b_c3 : Nat) (w4 : World) (k : Value → World → Prop) : Prop :=
  if 1100 < (b_n2 : Int) then
  Does Try.prog 8 #[] w4 (fun v w6 => ∃ (t7 : Bool), v = .bool t7 ∧ k (.bool t7) w6)
else
  Does Try.prog 15 #[.slice b_a1 b_n2 b_c3] w4 (fun v w8 => ∃ (r9 r10 : Bool) (r11 r12 r13 : Int) (r_a14 : Option Addr) (r_n15 r_c16 : Nat) (r17 : Int), v = .tuple #[.agg #[.bool r9, .bool r10, .int .i64 r11, .int .i64 r12, .int .i64 r13, .slice r_a14 r_n15 r_c16], .int .i64 r17] ∧ New w8 24 [.bool false, .bool false, .int .i64 0, .int .i64 0, .int .i64 0, .slice none 0 0] (fun p18 w19 => PutAll w19 p18 [.bool r9, .bool r10, .int .i64 r11, .int .i64 r12, .int .i64 r13, .slice r_a14 r_n15 r_c16] (fun w20 => Does Try.prog 16 #[.slice b_a1 b_n2 b_c3] w20 (fun v w22 => ∃ (r23 r24 : Bool) (r25 r26 r27 : Int) (r_a28 : Option Addr) (r_n29 r_c30 : Nat) (r31 : Int), v = .tuple #[.agg #[.bool r23, .bool r24, .int .i64 r25, .int .i64 r26, .int .i64 r27, .slice r_a28 r_n29 r_c30], .int .i64 r31] ∧ New w22 24 [.bool false, .bool false, .int .i64 0, .int .i64 0, .int .i64 0, .slice none 0 0] (fun p32 w33 => PutAll w33 p32 [.bool r23, .bool r24, .int .i64 r25, .int .i64 r26, .int .i64 r27, .slice r_a28 r_n29 r_c30] (fun w34 => ∃ (x36 x37 : Bool) (x38 x39 x40 : Int) (x_a41 : Option Addr) (x_n42 x_c43 : Nat), Cells w34 p18 0 [.bool x36, .bool x37, .int .i64 x38, .int .i64 x39, .int .i64 x40, .slice x_a41 x_n42 x_c43] ∧ ∃ (x45 x46 : Bool) (x47 x48 x49 : Int) (x_a50 : Option Addr) (x_n51 x_c52 : Nat), Cells w34 p32 0 [.bool x45, .bool x46, .int .i64 x47, .int .i64 x48, .int .i64 x49, .slice x_a50 x_n51 x_c52] ∧ Does Try.prog 17 #[.agg #[.bool x36, .bool x37, .int .i64 x38, .int .i64 x39, .int .i64 x40, .slice x_a41 x_n42 x_c43], .agg #[.bool x45, .bool x46, .int .i64 x47, .int .i64 x48, .int .i64 x49, .slice x_a50 x_n51 x_c52]] w34 (fun v w54 => ∃ (x55 : Bool), v = .bool x55 ∧ if x55 = true then
    if r17 = r31 then
      Does Try.prog 8 #[] w54 (fun v w58 => ∃ (x59 : Bool), v = .bool x59 ∧ k (.bool x59) w58)
    else
      k (.bool false) w54
  else
    k (.bool false) w54)))))))
set_option maxRecDepth 100000 in
set_option maxHeartbeats 2000000 in
theorem w4 (b_a1 : Option Addr) (b_n2 : Nat) (b_c3 : Nat) (w4 : World) (k : Value → World → Prop) (h : F4 b_a1 b_n2 b_c3 w4 k) : Does Try.prog 4 #[.slice b_a1 b_n2 b_c3] w4 k := by
  refine enter 32 Try.func4 rfl rfl rfl ?_
  intro ρ hρ
  have e0 := hρ 0 _ rfl
  unfold F4 at h
  refine WC_seq ?_
  refine WC_region ?_
  refine WL_val gd0 ((o_assign (v := .bool false) rfl) _) rfl ?_
  refine WL_nil ?_
  refine nrm ?_
  refine WC_seq ?_
  refine WC_seq ?_
  refine WC_region ?_
  refine WL_val gd0 ((o_move (v := .slice b_a1 b_n2 b_c3) (by exact e0)) _) rfl ?_
  refine WL_val gd0 ((o_len Try.underlying22 rfl) _) rfl ?_
  refine WL_val gd0 ((o_gtr rfl rfl) _) rfl ?_
  refine WL_nil ?_
  refine nrm ?_
  refine WC_cond (t := (decide (1100 < (b_n2 : Int)))) rfl (fun hb5 => ?_) (fun hb5 => ?_)
  · rw [if_pos (of_decide_eq_true hb5)] at h
    refine WC_seq ?_
    refine WC_region ?_
    refine WL_call gd0 (o_call Try.call8 argNil _) rfl (h.mono ?_)
    rintro _ w6 ⟨t7, rfl, h⟩
    refine WL_val gd0 ((o_assign (v := .bool t7) rfl) _) rfl ?_
    refine WL_nil ?_
    refine nrm ?_
    refine WC_ret ?_
    refine rtT ?_
    refine rtE ?_
    exact gv1 rfl rfl h
  · rw [if_neg (of_decide_eq_false hb5)] at h
    refine WC_skip ?_
    refine nrm ?_
    refine WC_seq ?_
    refine WC_region ?_
    refine WL_val gd0 ((o_move (v := .slice b_a1 b_n2 b_c3) (by exact e0)) _) rfl ?_
    refine WL_call gd0 (o_call Try.call15 (argCons rfl argNil) _) rfl (h.mono ?_)
    rintro _ w8 ⟨r9, r10, r11, r12, r13, r_a14, r_n15, r_c16, r17, rfl, h⟩
    refine WL_val gd0 ((o_move (v := .tuple #[.agg #[.bool r9, .bool r10, .int .i64 r11, .int .i64 r12, .int .i64 r13, .slice r_a14 r_n15 r_c16], .int .i64 r17]) rfl) _) rfl ?_
    refine WL_val gd0 ((o_extract (vs := [.agg #[.bool r9, .bool r10, .int .i64 r11, .int .i64 r12, .int .i64 r13, .slice r_a14 r_n15 r_c16], .int .i64 r17]) (r := .agg #[.bool r9, .bool r10, .int .i64 r11, .int .i64 r12, .int .i64 r13, .slice r_a14 r_n15 r_c16]) rfl rfl) _) rfl ?_
    refine WL_val gd0 ((o_extract (vs := [.agg #[.bool r9, .bool r10, .int .i64 r11, .int .i64 r12, .int .i64 r13, .slice r_a14 r_n15 r_c16], .int .i64 r17]) (r := .int .i64 r17) rfl rfl) _) rfl ?_
    have h := New.out h
    refine WL_val gd0 (o_alloc (z := .agg #[.bool false, .bool false, .int .i64 0, .int .i64 0, .int .i64 0, .slice none 0 0]) (cs := [.bool false, .bool false, .int .i64 0, .int .i64 0, .int .i64 0, .slice none 0 0]) Try.zeroValue24 rfl) rfl ?_
    generalize hp18 : fresh w8 = p18 at h ⊢
    generalize hw19 : push w8 24 [.bool false, .bool false, .int .i64 0, .int .i64 0, .int .i64 0, .slice none 0 0] = w19 at h ⊢
    try dsimp only at h
    obtain ⟨c21, h⟩ := h
    refine WL_act gd0 (o_storeAgg (vs := [.bool r9, .bool r10, .int .i64 r11, .int .i64 r12, .int .i64 r13, .slice r_a14 r_n15 r_c16]) Try.sizeOf24 rfl rfl rfl c21) ?_
    generalize hw20 : setAll w19 p18 0 [.bool r9, .bool r10, .int .i64 r11, .int .i64 r12, .int .i64 r13, .slice r_a14 r_n15 r_c16] = w20 at h ⊢
    try dsimp only at h
    refine WL_val gd0 ((o_assign (v := .int .i64 r17) rfl) _) rfl ?_
    refine WL_nil ?_
    refine nrm ?_
    refine WC_seq ?_
    refine WC_region ?_
    refine WL_val gd0 ((o_move (v := .slice b_a1 b_n2 b_c3) (by exact e0)) _) rfl ?_
    refine WL_call gd0 (o_call Try.call16 (argCons rfl argNil) _) rfl (h.mono ?_)
    rintro _ w22 ⟨r23, r24, r25, r26, r27, r_a28, r_n29, r_c30, r31, rfl, h⟩
    refine WL_val gd0 ((o_move (v := .tuple #[.agg #[.bool r23, .bool r24, .int .i64 r25, .int .i64 r26, .int .i64 r27, .slice r_a28 r_n29 r_c30], .int .i64 r31]) rfl) _) rfl ?_
    refine WL_val gd0 ((o_extract (vs := [.agg #[.bool r23, .bool r24, .int .i64 r25, .int .i64 r26, .int .i64 r27, .slice r_a28 r_n29 r_c30], .int .i64 r31]) (r := .agg #[.bool r23, .bool r24, .int .i64 r25, .int .i64 r26, .int .i64 r27, .slice r_a28 r_n29 r_c30]) rfl rfl) _) rfl ?_
    refine WL_val gd0 ((o_extract (vs := [.agg #[.bool r23, .bool r24, .int .i64 r25, .int .i64 r26, .int .i64 r27, .slice r_a28 r_n29 r_c30], .int .i64 r31]) (r := .int .i64 r31) rfl rfl) _) rfl ?_
    have h := New.out h
    refine WL_val gd0 (o_alloc (z := .agg #[.bool false, .bool false, .int .i64 0, .int .i64 0, .int .i64 0, .slice none 0 0]) (cs := [.bool false, .bool false, .int .i64 0, .int .i64 0, .int .i64 0, .slice none 0 0]) Try.zeroValue24 rfl) rfl ?_
    generalize hp32 : fresh w22 = p32 at h ⊢
    generalize hw33 : push w22 24 [.bool false, .bool false, .int .i64 0, .int .i64 0, .int .i64 0, .slice none 0 0] = w33 at h ⊢
    try dsimp only at h
    obtain ⟨c35, h⟩ := h
    refine WL_act gd0 (o_storeAgg (vs := [.bool r23, .bool r24, .int .i64 r25, .int .i64 r26, .int .i64 r27, .slice r_a28 r_n29 r_c30]) Try.sizeOf24 rfl rfl rfl c35) ?_
    generalize hw34 : setAll w33 p32 0 [.bool r23, .bool r24, .int .i64 r25, .int .i64 r26, .int .i64 r27, .slice r_a28 r_n29 r_c30] = w34 at h ⊢
    try dsimp only at h
    refine WL_val gd0 ((o_assign (v := .int .i64 r31) rfl) _) rfl ?_
    refine WL_nil ?_
    refine nrm ?_
    refine WC_seq ?_
    refine WC_region ?_
    obtain ⟨x36, x37, x38, x39, x40, x_a41, x_n42, x_c43, hc44, h⟩ := h
    refine WL_val gd0 (o_loadAgg (vs := [.bool x36, .bool x37, .int .i64 x38, .int .i64 x39, .int .i64 x40, .slice x_a41 x_n42 x_c43]) Try.isAgg24 Try.sizeOf24 rfl hc44) rfl ?_
    obtain ⟨x45, x46, x47, x48, x49, x_a50, x_n51, x_c52, hc53, h⟩ := h
    refine WL_val gd0 (o_loadAgg (vs := [.bool x45, .bool x46, .int .i64 x47, .int .i64 x48, .int .i64 x49, .slice x_a50 x_n51 x_c52]) Try.isAgg24 Try.sizeOf24 rfl hc53) rfl ?_
    refine WL_call gd0 (o_call Try.call17 (argCons rfl (argCons rfl argNil)) _) rfl (h.mono ?_)
    rintro _ w54 ⟨x55, rfl, h⟩
    refine WL_val gd0 ((o_move (v := .bool x55) rfl) _) rfl ?_
    refine bsplit x55 (fun hb56 => ?_) (fun hb56 => ?_)
    · rw [if_pos hb56] at h
      refine WL_val (gdY (b := x55) 24 rfl rfl hb56) ((o_move (v := .int .i64 r17) rfl) _) rfl ?_
      refine WL_val (gdY (b := x55) 24 rfl rfl hb56) ((o_move (v := .int .i64 r31) rfl) _) rfl ?_
      refine WL_val (gdY (b := x55) 24 rfl rfl hb56) ((o_eql rfl rfl) _) rfl ?_
      refine WL_val gd0 ((o_pickT (v := .bool (decide (r17 = r31))) rfl hb56 rfl) _) rfl ?_
      refine WL_val gd0 ((o_move (v := .bool (decide (r17 = r31))) rfl) _) rfl ?_
      refine bsplit (decide (r17 = r31)) (fun hb57 => ?_) (fun hb57 => ?_)
      · rw [if_pos (of_decide_eq_true hb57)] at h
        refine WL_call (gdY (b := (decide (r17 = r31))) 29 rfl rfl hb57) (o_call Try.call8 argNil _) rfl (h.mono ?_)
        rintro _ w58 ⟨x59, rfl, h⟩
        refine WL_val gd0 ((o_pickT (v := .bool x59) rfl hb57 rfl) _) rfl ?_
        refine WL_val gd0 ((o_assign (v := .bool x59) rfl) _) rfl ?_
        refine WL_nil ?_
        refine nrm ?_
        refine WC_ret ?_
        refine rtE ?_
        exact gv1 rfl rfl h
      · rw [if_neg (of_decide_eq_false hb57)] at h
        refine WL_skip (gdN (b := (decide (r17 = r31))) 29 rfl rfl hb57) rfl ?_
        refine WL_val gd0 ((o_pickF (v := .bool false) rfl hb57 rfl) _) rfl ?_
        refine WL_val gd0 ((o_assign (v := .bool false) rfl) _) rfl ?_
        refine WL_nil ?_
        refine nrm ?_
        refine WC_ret ?_
        refine rtE ?_
        exact gv1 rfl rfl h
    · rw [if_neg (neT hb56)] at h
      refine WL_skip (gdN (b := x55) 24 rfl rfl hb56) rfl ?_
      refine WL_skip (gdN (b := x55) 24 rfl rfl hb56) rfl ?_
      refine WL_skip (gdN (b := x55) 24 rfl rfl hb56) rfl ?_
      refine WL_val gd0 ((o_pickF (v := .bool false) rfl hb56 rfl) _) rfl ?_
      refine WL_val gd0 ((o_move (v := .bool false) rfl) _) rfl ?_
      refine WL_skip (gdN (b := false) 29 rfl rfl rfl) rfl ?_
      refine WL_val gd0 ((o_pickF (v := .bool false) rfl rfl rfl) _) rfl ?_
      refine WL_val gd0 ((o_assign (v := .bool false) rfl) _) rfl ?_
      refine WL_nil ?_
      refine nrm ?_
      refine WC_ret ?_
      refine rtE ?_
      exact gv1 rfl rfl h

def F5_j1 (p14 : Addr) (craft1 : Int) (channel2 : Int) (p27 : Addr) (next3 : Int) (r41 : Int) (r42 : Int) (r43 : Bool) (r56 : Bool) (r54 : Int) (r55 : Int) (fits69 : Bool) (w70 : World) (k : Value → World → Prop) : Prop :=
  ∃ (x71 x72 : Bool) (x73 x74 x75 : Int) (x_a76 : Option Addr) (x_n77 x_c78 : Nat), Cells w70.drew p14 0 [.bool x71, .bool x72, .int .i64 x73, .int .i64 x74, .int .i64 x75, .slice x_a76 x_n77 x_c78] ∧ Does Try.prog 20 #[.int .i64 craft1, .int .i64 channel2] w70.drew (fun v w80 => ∃ (x81 x82 : Bool) (x83 x84 x85 : Int) (x_a86 : Option Addr) (x_n87 x_c88 : Nat), v = .agg #[.bool x81, .bool x82, .int .i64 x83, .int .i64 x84, .int .i64 x85, .slice x_a86 x_n87 x_c88] ∧ Cells w80 p14 0 [.bool x71, .bool x72, .int .i64 x73, .int .i64 x74, .int .i64 x75, .slice x_a76 x_n77 x_c78] ∧ Does Try.prog 17 #[.agg #[.bool x71, .bool x72, .int .i64 x73, .int .i64 x74, .int .i64 x75, .slice x_a76 x_n77 x_c78], .agg #[.bool x81, .bool x82, .int .i64 x83, .int .i64 x84, .int .i64 x85, .slice x_a86 x_n87 x_c88]] w80 (fun v w90 => ∃ (x91 : Bool), v = .bool x91 ∧ if x91 = true then
  ∃ (x93 x94 : Bool) (x95 x96 x97 : Int) (x_a98 : Option Addr) (x_n99 x_c100 : Nat), Cells w90 p27 0 [.bool x93, .bool x94, .int .i64 x95, .int .i64 x96, .int .i64 x97, .slice x_a98 x_n99 x_c100] ∧ Does Try.prog 21 #[.int .i64 craft1, .int .i64 channel2, .int .i64 next3] w90 (fun v w102 => ∃ (x103 x104 : Bool) (x105 x106 x107 : Int) (x_a108 : Option Addr) (x_n109 x_c110 : Nat), v = .agg #[.bool x103, .bool x104, .int .i64 x105, .int .i64 x106, .int .i64 x107, .slice x_a108 x_n109 x_c110] ∧ Cells w102 p27 0 [.bool x93, .bool x94, .int .i64 x95, .int .i64 x96, .int .i64 x97, .slice x_a98 x_n99 x_c100] ∧ Does Try.prog 17 #[.agg #[.bool x93, .bool x94, .int .i64 x95, .int .i64 x96, .int .i64 x97, .slice x_a98 x_n99 x_c100], .agg #[.bool x103, .bool x104, .int .i64 x105, .int .i64 x106, .int .i64 x107, .slice x_a108 x_n109 x_c110]] w102 (fun v w112 => ∃ (x113 : Bool), v = .bool x113 ∧ if x113 = true then
    if r41 = 0 then
      if r42 = 0 then
        if r43 = true then
          if (r56 == fits69) = true then
            if (!fits69) = true then
              Does Try.prog 8 #[] w112 (fun v w120 => ∃ (x121 : Bool), v = .bool x121 ∧ k (.bool x121) w120)
            else
              if r54 = 1 then
                if r55 = next3 then
                  Does Try.prog 8 #[] w112 (fun v w124 => ∃ (x125 : Bool), v = .bool x125 ∧ k (.bool x125) w124)
                else
                  k (.bool false) w112
              else
                k (.bool false) w112
          else
            k (.bool false) w112
        else
          k (.bool false) w112
      else
        k (.bool false) w112
    else
      k (.bool false) w112
  else
    k (.bool false) w112))
else
  k (.bool false) w90))
/-- spacecraft spacecraftlaw14.TcframeDirects -/
def F5 (craft1 : Int) (channel2 : Int) (next3 : Int) (w4 : World) (k : Value → World → Prop) : Prop :=
  Does Try.prog 18 #[.int .i64 craft1, .int .i64 channel2] w4 (fun v w5 => ∃ (x6 x7 : Bool) (x8 x9 x10 : Int) (x_a11 : Option Addr) (x_n12 x_c13 : Nat), v = .agg #[.bool x6, .bool x7, .int .i64 x8, .int .i64 x9, .int .i64 x10, .slice x_a11 x_n12 x_c13] ∧ New w5 24 [.bool false, .bool false, .int .i64 0, .int .i64 0, .int .i64 0, .slice none 0 0] (fun p14 w15 => PutAll w15 p14 [.bool x6, .bool x7, .int .i64 x8, .int .i64 x9, .int .i64 x10, .slice x_a11 x_n12 x_c13] (fun w16 => Does Try.prog 19 #[.int .i64 craft1, .int .i64 channel2, .int .i64 next3] w16 (fun v w18 => ∃ (x19 x20 : Bool) (x21 x22 x23 : Int) (x_a24 : Option Addr) (x_n25 x_c26 : Nat), v = .agg #[.bool x19, .bool x20, .int .i64 x21, .int .i64 x22, .int .i64 x23, .slice x_a24 x_n25 x_c26] ∧ New w18 24 [.bool false, .bool false, .int .i64 0, .int .i64 0, .int .i64 0, .slice none 0 0] (fun p27 w28 => PutAll w28 p27 [.bool x19, .bool x20, .int .i64 x21, .int .i64 x22, .int .i64 x23, .slice x_a24 x_n25 x_c26] (fun w29 => ∃ (x31 x32 : Bool) (x33 x34 x35 : Int) (x_a36 : Option Addr) (x_n37 x_c38 : Nat), Cells w29 p14 0 [.bool x31, .bool x32, .int .i64 x33, .int .i64 x34, .int .i64 x35, .slice x_a36 x_n37 x_c38] ∧ Does Try.prog 11 #[.agg #[.bool x31, .bool x32, .int .i64 x33, .int .i64 x34, .int .i64 x35, .slice x_a36 x_n37 x_c38]] w29 (fun v w40 => ∃ (r41 r42 : Int) (r43 : Bool), v = .tuple #[.int .i64 r41, .int .i64 r42, .bool r43] ∧ ∃ (x44 x45 : Bool) (x46 x47 x48 : Int) (x_a49 : Option Addr) (x_n50 x_c51 : Nat), Cells w40 p27 0 [.bool x44, .bool x45, .int .i64 x46, .int .i64 x47, .int .i64 x48, .slice x_a49 x_n50 x_c51] ∧ Does Try.prog 11 #[.agg #[.bool x44, .bool x45, .int .i64 x46, .int .i64 x47, .int .i64 x48, .slice x_a49 x_n50 x_c51]] w40 (fun v w53 => ∃ (r54 r55 : Int) (r56 : Bool), v = .tuple #[.int .i64 r54, .int .i64 r55, .bool r56] ∧ if 0 ≤ next3 then
  F5_j1 p14 craft1 channel2 p27 next3 r41 r42 r43 r56 r54 r55 (decide (next3 ≤ 255)) w53 k
else
  F5_j1 p14 craft1 channel2 p27 next3 r41 r42 r43 r56 r54 r55 false w53 k))))))))
set_option maxRecDepth 100000 in
set_option maxHeartbeats 2000000 in
theorem w5 (craft1 : Int) (channel2 : Int) (next3 : Int) (w4 : World) (k : Value → World → Prop) (h : F5 craft1 channel2 next3 w4 k) : Does Try.prog 5 #[.int .i64 craft1, .int .i64 channel2, .int .i64 next3] w4 k := by
  refine enter 86 Try.func5 rfl rfl rfl ?_
  intro ρ hρ
  have e0 := hρ 0 _ rfl
  have e1 := hρ 1 _ rfl
  have e2 := hρ 2 _ rfl
  unfold F5 at h
  refine WC_seq ?_
  refine WC_region ?_
  refine WL_val gd0 ((o_assign (v := .bool false) rfl) _) rfl ?_
  refine WL_nil ?_
  refine nrm ?_
  refine WC_seq ?_
  refine WC_region ?_
  refine WL_val gd0 ((o_move (v := .int .i64 craft1) (by exact e0)) _) rfl ?_
  refine WL_val gd0 ((o_move (v := .int .i64 channel2) (by exact e1)) _) rfl ?_
  refine WL_call gd0 (o_call Try.call18 (argCons rfl (argCons rfl argNil)) _) rfl (h.mono ?_)
  rintro _ w5 ⟨x6, x7, x8, x9, x10, x_a11, x_n12, x_c13, rfl, h⟩
  have h := New.out h
  refine WL_val gd0 (o_alloc (z := .agg #[.bool false, .bool false, .int .i64 0, .int .i64 0, .int .i64 0, .slice none 0 0]) (cs := [.bool false, .bool false, .int .i64 0, .int .i64 0, .int .i64 0, .slice none 0 0]) Try.zeroValue24 rfl) rfl ?_
  generalize hp14 : fresh w5 = p14 at h ⊢
  generalize hw15 : push w5 24 [.bool false, .bool false, .int .i64 0, .int .i64 0, .int .i64 0, .slice none 0 0] = w15 at h ⊢
  try dsimp only at h
  obtain ⟨c17, h⟩ := h
  refine WL_act gd0 (o_storeAgg (vs := [.bool x6, .bool x7, .int .i64 x8, .int .i64 x9, .int .i64 x10, .slice x_a11 x_n12 x_c13]) Try.sizeOf24 rfl rfl rfl c17) ?_
  generalize hw16 : setAll w15 p14 0 [.bool x6, .bool x7, .int .i64 x8, .int .i64 x9, .int .i64 x10, .slice x_a11 x_n12 x_c13] = w16 at h ⊢
  try dsimp only at h
  refine WL_nil ?_
  refine nrm ?_
  refine WC_seq ?_
  refine WC_region ?_
  refine WL_val gd0 ((o_move (v := .int .i64 craft1) (by exact e0)) _) rfl ?_
  refine WL_val gd0 ((o_move (v := .int .i64 channel2) (by exact e1)) _) rfl ?_
  refine WL_val gd0 ((o_move (v := .int .i64 next3) (by exact e2)) _) rfl ?_
  refine WL_call gd0 (o_call Try.call19 (argCons rfl (argCons rfl (argCons rfl argNil))) _) rfl (h.mono ?_)
  rintro _ w18 ⟨x19, x20, x21, x22, x23, x_a24, x_n25, x_c26, rfl, h⟩
  have h := New.out h
  refine WL_val gd0 (o_alloc (z := .agg #[.bool false, .bool false, .int .i64 0, .int .i64 0, .int .i64 0, .slice none 0 0]) (cs := [.bool false, .bool false, .int .i64 0, .int .i64 0, .int .i64 0, .slice none 0 0]) Try.zeroValue24 rfl) rfl ?_
  generalize hp27 : fresh w18 = p27 at h ⊢
  generalize hw28 : push w18 24 [.bool false, .bool false, .int .i64 0, .int .i64 0, .int .i64 0, .slice none 0 0] = w28 at h ⊢
  try dsimp only at h
  obtain ⟨c30, h⟩ := h
  refine WL_act gd0 (o_storeAgg (vs := [.bool x19, .bool x20, .int .i64 x21, .int .i64 x22, .int .i64 x23, .slice x_a24 x_n25 x_c26]) Try.sizeOf24 rfl rfl rfl c30) ?_
  generalize hw29 : setAll w28 p27 0 [.bool x19, .bool x20, .int .i64 x21, .int .i64 x22, .int .i64 x23, .slice x_a24 x_n25 x_c26] = w29 at h ⊢
  try dsimp only at h
  refine WL_nil ?_
  refine nrm ?_
  refine WC_seq ?_
  refine WC_region ?_
  obtain ⟨x31, x32, x33, x34, x35, x_a36, x_n37, x_c38, hc39, h⟩ := h
  refine WL_val gd0 (o_loadAgg (vs := [.bool x31, .bool x32, .int .i64 x33, .int .i64 x34, .int .i64 x35, .slice x_a36 x_n37 x_c38]) Try.isAgg24 Try.sizeOf24 rfl hc39) rfl ?_
  refine WL_call gd0 (o_call Try.call11 (argCons rfl argNil) _) rfl (h.mono ?_)
  rintro _ w40 ⟨r41, r42, r43, rfl, h⟩
  refine WL_val gd0 ((o_move (v := .tuple #[.int .i64 r41, .int .i64 r42, .bool r43]) rfl) _) rfl ?_
  refine WL_val gd0 ((o_extract (vs := [.int .i64 r41, .int .i64 r42, .bool r43]) (r := .int .i64 r41) rfl rfl) _) rfl ?_
  refine WL_val gd0 ((o_extract (vs := [.int .i64 r41, .int .i64 r42, .bool r43]) (r := .int .i64 r42) rfl rfl) _) rfl ?_
  refine WL_val gd0 ((o_extract (vs := [.int .i64 r41, .int .i64 r42, .bool r43]) (r := .bool r43) rfl rfl) _) rfl ?_
  refine WL_val gd0 ((o_assign (v := .int .i64 r41) rfl) _) rfl ?_
  refine WL_val gd0 ((o_assign (v := .int .i64 r42) rfl) _) rfl ?_
  refine WL_val gd0 ((o_assign (v := .bool r43) rfl) _) rfl ?_
  refine WL_nil ?_
  refine nrm ?_
  refine WC_seq ?_
  refine WC_region ?_
  obtain ⟨x44, x45, x46, x47, x48, x_a49, x_n50, x_c51, hc52, h⟩ := h
  refine WL_val gd0 (o_loadAgg (vs := [.bool x44, .bool x45, .int .i64 x46, .int .i64 x47, .int .i64 x48, .slice x_a49 x_n50 x_c51]) Try.isAgg24 Try.sizeOf24 rfl hc52) rfl ?_
  refine WL_call gd0 (o_call Try.call11 (argCons rfl argNil) _) rfl (h.mono ?_)
  rintro _ w53 ⟨r54, r55, r56, rfl, h⟩
  refine WL_val gd0 ((o_move (v := .tuple #[.int .i64 r54, .int .i64 r55, .bool r56]) rfl) _) rfl ?_
  refine WL_val gd0 ((o_extract (vs := [.int .i64 r54, .int .i64 r55, .bool r56]) (r := .int .i64 r54) rfl rfl) _) rfl ?_
  refine WL_val gd0 ((o_extract (vs := [.int .i64 r54, .int .i64 r55, .bool r56]) (r := .int .i64 r55) rfl rfl) _) rfl ?_
  refine WL_val gd0 ((o_extract (vs := [.int .i64 r54, .int .i64 r55, .bool r56]) (r := .bool r56) rfl rfl) _) rfl ?_
  refine WL_val gd0 ((o_assign (v := .int .i64 r54) rfl) _) rfl ?_
  refine WL_val gd0 ((o_assign (v := .int .i64 r55) rfl) _) rfl ?_
  refine WL_val gd0 ((o_assign (v := .bool r56) rfl) _) rfl ?_
  refine WL_nil ?_
  refine nrm ?_
  refine WC_cut (fun ρ w' => ∃ (fits69 : Bool), ρ 15 = .bool fits69 ∧ ρ 0 = .int .i64 craft1 ∧ ρ 1 = .int .i64 channel2 ∧ ρ 2 = .int .i64 next3 ∧ ρ 7 = .pointer (some p14) ∧ ρ 8 = .pointer (some p27) ∧ ρ 9 = .int .i64 r41 ∧ ρ 10 = .int .i64 r42 ∧ ρ 11 = .bool r43 ∧ ρ 12 = .int .i64 r54 ∧ ρ 13 = .int .i64 r55 ∧ ρ 14 = .bool r56 ∧ F5_j1 p14 craft1 channel2 p27 next3 r41 r42 r43 r56 r54 r55 fits69 w' k) ?_ ?_
  · refine WC_region ?_
    refine WL_val gd0 ((o_move (v := .int .i64 next3) (by exact e2)) _) rfl ?_
    refine WL_val gd0 ((o_geq rfl rfl) _) rfl ?_
    refine WL_val gd0 ((o_move (v := .bool (decide (0 ≤ next3))) rfl) _) rfl ?_
    refine bsplit (decide (0 ≤ next3)) (fun hb126 => ?_) (fun hb126 => ?_)
    · rw [if_pos (of_decide_eq_true hb126)] at h
      refine WL_val (gdY (b := (decide (0 ≤ next3))) 37 rfl rfl hb126) ((o_move (v := .int .i64 next3) (by exact e2)) _) rfl ?_
      refine WL_val (gdY (b := (decide (0 ≤ next3))) 37 rfl rfl hb126) ((o_leq rfl rfl) _) rfl ?_
      refine WL_val gd0 ((o_pickT (v := .bool (decide (next3 ≤ 255))) rfl hb126 rfl) _) rfl ?_
      refine WL_val gd0 ((o_assign (v := .bool (decide (next3 ≤ 255))) rfl) _) rfl ?_
      refine WL_nil ?_
      refine nrm ?_
      exact ⟨_, rfl, e0, e1, e2, rfl, rfl, rfl, rfl, rfl, rfl, rfl, rfl, h⟩
    · rw [if_neg (of_decide_eq_false hb126)] at h
      refine WL_skip (gdN (b := (decide (0 ≤ next3))) 37 rfl rfl hb126) rfl ?_
      refine WL_skip (gdN (b := (decide (0 ≤ next3))) 37 rfl rfl hb126) rfl ?_
      refine WL_val gd0 ((o_pickF (v := .bool false) rfl hb126 rfl) _) rfl ?_
      refine WL_val gd0 ((o_assign (v := .bool false) rfl) _) rfl ?_
      refine WL_nil ?_
      refine nrm ?_
      exact ⟨_, rfl, e0, e1, e2, rfl, rfl, rfl, rfl, rfl, rfl, rfl, rfl, h⟩
  · rintro ρ w70 ⟨fits69, e15_68, e0_57, e1_58, e2_59, e7_60, e8_61, e9_62, e10_63, e11_64, e12_65, e13_66, e14_67, h⟩
    unfold F5_j1 at h
    refine WC_seq ?_
    refine WC_draws [3, 4, 10, 11, 43] (.look 0 (.look 1 (.look 2 (.act 3 (.act 4 (.look 5 (.look 6 (.look 7 (.look 8 (.look 9 (.act 10 (.act 11 (.look 12 (.look 13 (.look 14 (.look 15 (.look 16 (.look 17 (.look 18 (.look 19 (.look 20 (.look 21 (.look 22 (.look 23 (.look 24 (.look 25 (.look 26 (.look 27 (.look 28 (.look 29 (.look 30 (.look 31 (.look 32 (.look 33 (.look 34 (.look 35 (.look 36 (.look 37 (.look 38 (.look 39 (.look 40 (.look 41 (.look 42 (.act 43 (.look 44 (.look 45 .nil)))))))))))))))))))))))))))))))))))))))))))))) Try.mixed (by kernel_rfl) ?_
    obtain ⟨x71, x72, x73, x74, x75, x_a76, x_n77, x_c78, hc79, h⟩ := h
    refine WQ_look (fun w => Cells w p14 0 [.bool x71, .bool x72, .int .i64 x73, .int .i64 x74, .int .i64 x75, .slice x_a76 x_n77 x_c78]) rfl gd0 (fun w hc => (o_loadAgg (vs := [.bool x71, .bool x72, .int .i64 x73, .int .i64 x74, .int .i64 x75, .slice x_a76 x_n77 x_c78]) Try.isAgg24 Try.sizeOf24 (by exact e7_60) hc)) hc79 rfl ?_
    refine WQ_val rfl gd0 (o_move (v := .int .i64 craft1) (by exact e0_57)) rfl ?_
    refine WQ_val rfl gd0 (o_move (v := .int .i64 channel2) (by exact e1_58)) rfl ?_
    refine WQ_call rfl gd0 (o_call Try.call20 (argCons rfl (argCons rfl argNil)) _) rfl (h.mono ?_)
    rintro _ w80 ⟨x81, x82, x83, x84, x85, x_a86, x_n87, x_c88, rfl, hh89, h⟩
    refine ⟨⟨trivial, fun _ => hh89⟩, ?_⟩
    refine WQ_call rfl gd0 (o_call Try.call17 (argCons rfl (argCons rfl argNil)) _) rfl (h.mono ?_)
    rintro _ w90 ⟨x91, rfl, h⟩
    refine ⟨⟨trivial, depT (by kernel_rfl)⟩, ?_⟩
    refine WQ_val rfl gd0 (o_move (v := .bool x91) rfl) rfl ?_
    refine bsplit x91 (fun hb92 => ?_) (fun hb92 => ?_)
    · rw [if_pos hb92] at h
      obtain ⟨x93, x94, x95, x96, x97, x_a98, x_n99, x_c100, hc101, h⟩ := h
      refine WQ_look (fun w => Cells w p27 0 [.bool x93, .bool x94, .int .i64 x95, .int .i64 x96, .int .i64 x97, .slice x_a98 x_n99 x_c100]) rfl (gdY (b := x91) 46 rfl rfl hb92) (fun w hc => (o_loadAgg (vs := [.bool x93, .bool x94, .int .i64 x95, .int .i64 x96, .int .i64 x97, .slice x_a98 x_n99 x_c100]) Try.isAgg24 Try.sizeOf24 (by exact e8_61) hc)) hc101 rfl ?_
      refine WQ_val rfl (gdY (b := x91) 46 rfl rfl hb92) (o_move (v := .int .i64 craft1) (by exact e0_57)) rfl ?_
      refine WQ_val rfl (gdY (b := x91) 46 rfl rfl hb92) (o_move (v := .int .i64 channel2) (by exact e1_58)) rfl ?_
      refine WQ_val rfl (gdY (b := x91) 46 rfl rfl hb92) (o_move (v := .int .i64 next3) (by exact e2_59)) rfl ?_
      refine WQ_call rfl (gdY (b := x91) 46 rfl rfl hb92) (o_call Try.call21 (argCons rfl (argCons rfl (argCons rfl argNil))) _) rfl (h.mono ?_)
      rintro _ w102 ⟨x103, x104, x105, x106, x107, x_a108, x_n109, x_c110, rfl, hh111, h⟩
      refine ⟨⟨⟨trivial, depT (by kernel_rfl)⟩, fun _ => hh111⟩, ?_⟩
      refine WQ_call rfl (gdY (b := x91) 46 rfl rfl hb92) (o_call Try.call17 (argCons rfl (argCons rfl argNil)) _) rfl (h.mono ?_)
      rintro _ w112 ⟨x113, rfl, h⟩
      refine ⟨⟨⟨trivial, depT (by kernel_rfl)⟩, depT (by kernel_rfl)⟩, ?_⟩
      refine WQ_val rfl gd0 (o_pickT (v := .bool x113) rfl hb92 rfl) rfl ?_
      refine WQ_val rfl gd0 (o_move (v := .bool x113) rfl) rfl ?_
      refine bsplit x113 (fun hb114 => ?_) (fun hb114 => ?_)
      · rw [if_pos hb114] at h
        refine WQ_val rfl (gdY (b := x113) 54 rfl rfl hb114) (o_move (v := .int .i64 r41) (by exact e9_62)) rfl ?_
        refine WQ_val rfl (gdY (b := x113) 54 rfl rfl hb114) (o_eql rfl rfl) rfl ?_
        refine WQ_val rfl gd0 (o_pickT (v := .bool (decide (r41 = 0))) rfl hb114 rfl) rfl ?_
        refine WQ_val rfl gd0 (o_move (v := .bool (decide (r41 = 0))) rfl) rfl ?_
        refine bsplit (decide (r41 = 0)) (fun hb115 => ?_) (fun hb115 => ?_)
        · rw [if_pos (of_decide_eq_true hb115)] at h
          refine WQ_val rfl (gdY (b := (decide (r41 = 0))) 58 rfl rfl hb115) (o_move (v := .int .i64 r42) (by exact e10_63)) rfl ?_
          refine WQ_val rfl (gdY (b := (decide (r41 = 0))) 58 rfl rfl hb115) (o_eql rfl rfl) rfl ?_
          refine WQ_val rfl gd0 (o_pickT (v := .bool (decide (r42 = 0))) rfl hb115 rfl) rfl ?_
          refine WQ_val rfl gd0 (o_move (v := .bool (decide (r42 = 0))) rfl) rfl ?_
          refine bsplit (decide (r42 = 0)) (fun hb116 => ?_) (fun hb116 => ?_)
          · rw [if_pos (of_decide_eq_true hb116)] at h
            refine WQ_val rfl (gdY (b := (decide (r42 = 0))) 62 rfl rfl hb116) (o_move (v := .bool r43) (by exact e11_64)) rfl ?_
            refine WQ_val rfl gd0 (o_pickT (v := .bool r43) rfl hb116 rfl) rfl ?_
            refine WQ_val rfl gd0 (o_move (v := .bool r43) rfl) rfl ?_
            refine bsplit r43 (fun hb117 => ?_) (fun hb117 => ?_)
            · rw [if_pos hb117] at h
              refine WQ_val rfl (gdY (b := r43) 65 rfl rfl hb117) (o_move (v := .bool r56) (by exact e14_67)) rfl ?_
              refine WQ_val rfl (gdY (b := r43) 65 rfl rfl hb117) (o_move (v := .bool fits69) (by exact e15_68)) rfl ?_
              refine WQ_val rfl (gdY (b := r43) 65 rfl rfl hb117) (o_eqlBool Try.underlying4 rfl rfl) rfl ?_
              refine WQ_val rfl gd0 (o_pickT (v := .bool (r56 == fits69)) rfl hb117 rfl) rfl ?_
              refine WQ_val rfl gd0 (o_move (v := .bool (r56 == fits69)) rfl) rfl ?_
              refine bsplit (r56 == fits69) (fun hb118 => ?_) (fun hb118 => ?_)
              · rw [if_pos hb118] at h
                refine WQ_val rfl (gdY (b := (r56 == fits69)) 70 rfl rfl hb118) (o_move (v := .bool fits69) (by exact e15_68)) rfl ?_
                refine WQ_val rfl (gdY (b := (r56 == fits69)) 70 rfl rfl hb118) (o_not rfl) rfl ?_
                refine WQ_val rfl (gdY (b := (r56 == fits69)) 70 rfl rfl hb118) (o_move (v := .bool (!fits69)) rfl) rfl ?_
                refine bsplit (!fits69) (fun hb119 => ?_) (fun hb119 => ?_)
                · rw [if_pos hb119] at h
                  refine WQ_skip rfl (gdN (b := (!fits69)) 73 rfl rfl hb119) rfl ?_
                  refine WQ_skip rfl (gdN (b := (!fits69)) 73 rfl rfl hb119) rfl ?_
                  refine WQ_skip rfl (gdN (b := (!fits69)) 73 rfl rfl hb119) rfl ?_
                  refine WQ_skip rfl (gdU 76 rfl rfl) rfl ?_
                  refine WQ_skip rfl (gdU 76 rfl rfl) rfl ?_
                  refine WQ_skip rfl (gdU 76 rfl rfl) rfl ?_
                  refine WQ_skip rfl (gdN (b := (!fits69)) 73 rfl rfl hb119) rfl ?_
                  refine WQ_val rfl (gdY (b := (r56 == fits69)) 70 rfl rfl hb118) (o_pickT (v := .bool true) rfl hb119 rfl) rfl ?_
                  refine WQ_val rfl gd0 (o_pickT (v := .bool true) rfl hb118 rfl) rfl ?_
                  refine WQ_val rfl gd0 (o_move (v := .bool true) rfl) rfl ?_
                  refine WQ_call rfl (gdY (b := true) 83 rfl rfl rfl) (o_call Try.call8 argNil _) rfl (h.mono ?_)
                  rintro _ w120 ⟨x121, rfl, h⟩
                  refine ⟨⟨⟨trivial, depT (by kernel_rfl)⟩, depT (by kernel_rfl)⟩, ?_⟩
                  refine WQ_val rfl gd0 (o_pickT (v := .bool x121) rfl rfl rfl) rfl ?_
                  refine WQ_val rfl gd0 (o_assign (v := .bool x121) rfl) rfl ?_
                  refine WQ_nil ?_
                  refine nrm ?_
                  refine WC_ret ?_
                  refine rtE ?_
                  exact gv1 rfl rfl h
                · rw [if_neg (neT hb119)] at h
                  refine WQ_val rfl (gdY (b := (!fits69)) 73 rfl rfl hb119) (o_move (v := .int .i64 r54) (by exact e12_65)) rfl ?_
                  refine WQ_val rfl (gdY (b := (!fits69)) 73 rfl rfl hb119) (o_eql rfl rfl) rfl ?_
                  refine WQ_val rfl (gdY (b := (!fits69)) 73 rfl rfl hb119) (o_move (v := .bool (decide (r54 = 1))) rfl) rfl ?_
                  refine bsplit (decide (r54 = 1)) (fun hb122 => ?_) (fun hb122 => ?_)
                  · rw [if_pos (of_decide_eq_true hb122)] at h
                    refine WQ_val rfl (gdY (b := (decide (r54 = 1))) 76 rfl rfl hb122) (o_move (v := .int .i64 r55) (by exact e13_66)) rfl ?_
                    refine WQ_val rfl (gdY (b := (decide (r54 = 1))) 76 rfl rfl hb122) (o_move (v := .int .i64 next3) (by exact e2_59)) rfl ?_
                    refine WQ_val rfl (gdY (b := (decide (r54 = 1))) 76 rfl rfl hb122) (o_eql rfl rfl) rfl ?_
                    refine WQ_val rfl (gdY (b := (!fits69)) 73 rfl rfl hb119) (o_pickT (v := .bool (decide (r55 = next3))) rfl hb122 rfl) rfl ?_
                    refine WQ_val rfl (gdY (b := (r56 == fits69)) 70 rfl rfl hb118) (o_pickF (v := .bool (decide (r55 = next3))) rfl hb119 rfl) rfl ?_
                    refine WQ_val rfl gd0 (o_pickT (v := .bool (decide (r55 = next3))) rfl hb118 rfl) rfl ?_
                    refine WQ_val rfl gd0 (o_move (v := .bool (decide (r55 = next3))) rfl) rfl ?_
                    refine bsplit (decide (r55 = next3)) (fun hb123 => ?_) (fun hb123 => ?_)
                    · rw [if_pos (of_decide_eq_true hb123)] at h
                      refine WQ_call rfl (gdY (b := (decide (r55 = next3))) 83 rfl rfl hb123) (o_call Try.call8 argNil _) rfl (h.mono ?_)
                      rintro _ w124 ⟨x125, rfl, h⟩
                      refine ⟨⟨⟨trivial, depT (by kernel_rfl)⟩, depT (by kernel_rfl)⟩, ?_⟩
                      refine WQ_val rfl gd0 (o_pickT (v := .bool x125) rfl hb123 rfl) rfl ?_
                      refine WQ_val rfl gd0 (o_assign (v := .bool x125) rfl) rfl ?_
                      refine WQ_nil ?_
                      refine nrm ?_
                      refine WC_ret ?_
                      refine rtE ?_
                      exact gv1 rfl rfl h
                    · rw [if_neg (of_decide_eq_false hb123)] at h
                      refine WQ_passAct rfl (gdN (b := (decide (r55 = next3))) 83 rfl rfl hb123) rfl (by exact ⟨⟨trivial, depT (by kernel_rfl)⟩, depT (by kernel_rfl)⟩) ?_
                      refine WQ_val rfl gd0 (o_pickF (v := .bool false) rfl hb123 rfl) rfl ?_
                      refine WQ_val rfl gd0 (o_assign (v := .bool false) rfl) rfl ?_
                      refine WQ_nil ?_
                      refine nrm ?_
                      refine WC_ret ?_
                      refine rtE ?_
                      exact gv1 rfl rfl h
                  · rw [if_neg (of_decide_eq_false hb122)] at h
                    refine WQ_skip rfl (gdN (b := (decide (r54 = 1))) 76 rfl rfl hb122) rfl ?_
                    refine WQ_skip rfl (gdN (b := (decide (r54 = 1))) 76 rfl rfl hb122) rfl ?_
                    refine WQ_skip rfl (gdN (b := (decide (r54 = 1))) 76 rfl rfl hb122) rfl ?_
                    refine WQ_val rfl (gdY (b := (!fits69)) 73 rfl rfl hb119) (o_pickF (v := .bool false) rfl hb122 rfl) rfl ?_
                    refine WQ_val rfl (gdY (b := (r56 == fits69)) 70 rfl rfl hb118) (o_pickF (v := .bool false) rfl hb119 rfl) rfl ?_
                    refine WQ_val rfl gd0 (o_pickT (v := .bool false) rfl hb118 rfl) rfl ?_
                    refine WQ_val rfl gd0 (o_move (v := .bool false) rfl) rfl ?_
                    refine WQ_passAct rfl (gdN (b := false) 83 rfl rfl rfl) rfl (by exact ⟨⟨trivial, depT (by kernel_rfl)⟩, depT (by kernel_rfl)⟩) ?_
                    refine WQ_val rfl gd0 (o_pickF (v := .bool false) rfl rfl rfl) rfl ?_
                    refine WQ_val rfl gd0 (o_assign (v := .bool false) rfl) rfl ?_
                    refine WQ_nil ?_
                    refine nrm ?_
                    refine WC_ret ?_
                    refine rtE ?_
                    exact gv1 rfl rfl h
              · rw [if_neg (neT hb118)] at h
                refine WQ_skip rfl (gdN (b := (r56 == fits69)) 70 rfl rfl hb118) rfl ?_
                refine WQ_skip rfl (gdN (b := (r56 == fits69)) 70 rfl rfl hb118) rfl ?_
                refine WQ_skip rfl (gdN (b := (r56 == fits69)) 70 rfl rfl hb118) rfl ?_
                refine WQ_skip rfl (gdU 73 rfl rfl) rfl ?_
                refine WQ_skip rfl (gdU 73 rfl rfl) rfl ?_
                refine WQ_skip rfl (gdU 73 rfl rfl) rfl ?_
                refine WQ_skip rfl (gdU 76 rfl rfl) rfl ?_
                refine WQ_skip rfl (gdU 76 rfl rfl) rfl ?_
                refine WQ_skip rfl (gdU 76 rfl rfl) rfl ?_
                refine WQ_skip rfl (gdU 73 rfl rfl) rfl ?_
                refine WQ_skip rfl (gdN (b := (r56 == fits69)) 70 rfl rfl hb118) rfl ?_
                refine WQ_val rfl gd0 (o_pickF (v := .bool false) rfl hb118 rfl) rfl ?_
                refine WQ_val rfl gd0 (o_move (v := .bool false) rfl) rfl ?_
                refine WQ_passAct rfl (gdN (b := false) 83 rfl rfl rfl) rfl (by exact ⟨⟨trivial, depT (by kernel_rfl)⟩, depT (by kernel_rfl)⟩) ?_
                refine WQ_val rfl gd0 (o_pickF (v := .bool false) rfl rfl rfl) rfl ?_
                refine WQ_val rfl gd0 (o_assign (v := .bool false) rfl) rfl ?_
                refine WQ_nil ?_
                refine nrm ?_
                refine WC_ret ?_
                refine rtE ?_
                exact gv1 rfl rfl h
            · rw [if_neg (neT hb117)] at h
              refine WQ_skip rfl (gdN (b := r43) 65 rfl rfl hb117) rfl ?_
              refine WQ_skip rfl (gdN (b := r43) 65 rfl rfl hb117) rfl ?_
              refine WQ_skip rfl (gdN (b := r43) 65 rfl rfl hb117) rfl ?_
              refine WQ_val rfl gd0 (o_pickF (v := .bool false) rfl hb117 rfl) rfl ?_
              refine WQ_val rfl gd0 (o_move (v := .bool false) rfl) rfl ?_
              refine WQ_skip rfl (gdN (b := false) 70 rfl rfl rfl) rfl ?_
              refine WQ_skip rfl (gdN (b := false) 70 rfl rfl rfl) rfl ?_
              refine WQ_skip rfl (gdN (b := false) 70 rfl rfl rfl) rfl ?_
              refine WQ_skip rfl (gdU 73 rfl rfl) rfl ?_
              refine WQ_skip rfl (gdU 73 rfl rfl) rfl ?_
              refine WQ_skip rfl (gdU 73 rfl rfl) rfl ?_
              refine WQ_skip rfl (gdU 76 rfl rfl) rfl ?_
              refine WQ_skip rfl (gdU 76 rfl rfl) rfl ?_
              refine WQ_skip rfl (gdU 76 rfl rfl) rfl ?_
              refine WQ_skip rfl (gdU 73 rfl rfl) rfl ?_
              refine WQ_skip rfl (gdN (b := false) 70 rfl rfl rfl) rfl ?_
              refine WQ_val rfl gd0 (o_pickF (v := .bool false) rfl rfl rfl) rfl ?_
              refine WQ_val rfl gd0 (o_move (v := .bool false) rfl) rfl ?_
              refine WQ_passAct rfl (gdN (b := false) 83 rfl rfl rfl) rfl (by exact ⟨⟨trivial, depT (by kernel_rfl)⟩, depT (by kernel_rfl)⟩) ?_
              refine WQ_val rfl gd0 (o_pickF (v := .bool false) rfl rfl rfl) rfl ?_
              refine WQ_val rfl gd0 (o_assign (v := .bool false) rfl) rfl ?_
              refine WQ_nil ?_
              refine nrm ?_
              refine WC_ret ?_
              refine rtE ?_
              exact gv1 rfl rfl h
          · rw [if_neg (of_decide_eq_false hb116)] at h
            refine WQ_skip rfl (gdN (b := (decide (r42 = 0))) 62 rfl rfl hb116) rfl ?_
            refine WQ_val rfl gd0 (o_pickF (v := .bool false) rfl hb116 rfl) rfl ?_
            refine WQ_val rfl gd0 (o_move (v := .bool false) rfl) rfl ?_
            refine WQ_skip rfl (gdN (b := false) 65 rfl rfl rfl) rfl ?_
            refine WQ_skip rfl (gdN (b := false) 65 rfl rfl rfl) rfl ?_
            refine WQ_skip rfl (gdN (b := false) 65 rfl rfl rfl) rfl ?_
            refine WQ_val rfl gd0 (o_pickF (v := .bool false) rfl rfl rfl) rfl ?_
            refine WQ_val rfl gd0 (o_move (v := .bool false) rfl) rfl ?_
            refine WQ_skip rfl (gdN (b := false) 70 rfl rfl rfl) rfl ?_
            refine WQ_skip rfl (gdN (b := false) 70 rfl rfl rfl) rfl ?_
            refine WQ_skip rfl (gdN (b := false) 70 rfl rfl rfl) rfl ?_
            refine WQ_skip rfl (gdU 73 rfl rfl) rfl ?_
            refine WQ_skip rfl (gdU 73 rfl rfl) rfl ?_
            refine WQ_skip rfl (gdU 73 rfl rfl) rfl ?_
            refine WQ_skip rfl (gdU 76 rfl rfl) rfl ?_
            refine WQ_skip rfl (gdU 76 rfl rfl) rfl ?_
            refine WQ_skip rfl (gdU 76 rfl rfl) rfl ?_
            refine WQ_skip rfl (gdU 73 rfl rfl) rfl ?_
            refine WQ_skip rfl (gdN (b := false) 70 rfl rfl rfl) rfl ?_
            refine WQ_val rfl gd0 (o_pickF (v := .bool false) rfl rfl rfl) rfl ?_
            refine WQ_val rfl gd0 (o_move (v := .bool false) rfl) rfl ?_
            refine WQ_passAct rfl (gdN (b := false) 83 rfl rfl rfl) rfl (by exact ⟨⟨trivial, depT (by kernel_rfl)⟩, depT (by kernel_rfl)⟩) ?_
            refine WQ_val rfl gd0 (o_pickF (v := .bool false) rfl rfl rfl) rfl ?_
            refine WQ_val rfl gd0 (o_assign (v := .bool false) rfl) rfl ?_
            refine WQ_nil ?_
            refine nrm ?_
            refine WC_ret ?_
            refine rtE ?_
            exact gv1 rfl rfl h
        · rw [if_neg (of_decide_eq_false hb115)] at h
          refine WQ_skip rfl (gdN (b := (decide (r41 = 0))) 58 rfl rfl hb115) rfl ?_
          refine WQ_skip rfl (gdN (b := (decide (r41 = 0))) 58 rfl rfl hb115) rfl ?_
          refine WQ_val rfl gd0 (o_pickF (v := .bool false) rfl hb115 rfl) rfl ?_
          refine WQ_val rfl gd0 (o_move (v := .bool false) rfl) rfl ?_
          refine WQ_skip rfl (gdN (b := false) 62 rfl rfl rfl) rfl ?_
          refine WQ_val rfl gd0 (o_pickF (v := .bool false) rfl rfl rfl) rfl ?_
          refine WQ_val rfl gd0 (o_move (v := .bool false) rfl) rfl ?_
          refine WQ_skip rfl (gdN (b := false) 65 rfl rfl rfl) rfl ?_
          refine WQ_skip rfl (gdN (b := false) 65 rfl rfl rfl) rfl ?_
          refine WQ_skip rfl (gdN (b := false) 65 rfl rfl rfl) rfl ?_
          refine WQ_val rfl gd0 (o_pickF (v := .bool false) rfl rfl rfl) rfl ?_
          refine WQ_val rfl gd0 (o_move (v := .bool false) rfl) rfl ?_
          refine WQ_skip rfl (gdN (b := false) 70 rfl rfl rfl) rfl ?_
          refine WQ_skip rfl (gdN (b := false) 70 rfl rfl rfl) rfl ?_
          refine WQ_skip rfl (gdN (b := false) 70 rfl rfl rfl) rfl ?_
          refine WQ_skip rfl (gdU 73 rfl rfl) rfl ?_
          refine WQ_skip rfl (gdU 73 rfl rfl) rfl ?_
          refine WQ_skip rfl (gdU 73 rfl rfl) rfl ?_
          refine WQ_skip rfl (gdU 76 rfl rfl) rfl ?_
          refine WQ_skip rfl (gdU 76 rfl rfl) rfl ?_
          refine WQ_skip rfl (gdU 76 rfl rfl) rfl ?_
          refine WQ_skip rfl (gdU 73 rfl rfl) rfl ?_
          refine WQ_skip rfl (gdN (b := false) 70 rfl rfl rfl) rfl ?_
          refine WQ_val rfl gd0 (o_pickF (v := .bool false) rfl rfl rfl) rfl ?_
          refine WQ_val rfl gd0 (o_move (v := .bool false) rfl) rfl ?_
          refine WQ_passAct rfl (gdN (b := false) 83 rfl rfl rfl) rfl (by exact ⟨⟨trivial, depT (by kernel_rfl)⟩, depT (by kernel_rfl)⟩) ?_
          refine WQ_val rfl gd0 (o_pickF (v := .bool false) rfl rfl rfl) rfl ?_
          refine WQ_val rfl gd0 (o_assign (v := .bool false) rfl) rfl ?_
          refine WQ_nil ?_
          refine nrm ?_
          refine WC_ret ?_
          refine rtE ?_
          exact gv1 rfl rfl h
      · rw [if_neg (neT hb114)] at h
        refine WQ_skip rfl (gdN (b := x113) 54 rfl rfl hb114) rfl ?_
        refine WQ_skip rfl (gdN (b := x113) 54 rfl rfl hb114) rfl ?_
        refine WQ_val rfl gd0 (o_pickF (v := .bool false) rfl hb114 rfl) rfl ?_
        refine WQ_val rfl gd0 (o_move (v := .bool false) rfl) rfl ?_
        refine WQ_skip rfl (gdN (b := false) 58 rfl rfl rfl) rfl ?_
        refine WQ_skip rfl (gdN (b := false) 58 rfl rfl rfl) rfl ?_
        refine WQ_val rfl gd0 (o_pickF (v := .bool false) rfl rfl rfl) rfl ?_
        refine WQ_val rfl gd0 (o_move (v := .bool false) rfl) rfl ?_
        refine WQ_skip rfl (gdN (b := false) 62 rfl rfl rfl) rfl ?_
        refine WQ_val rfl gd0 (o_pickF (v := .bool false) rfl rfl rfl) rfl ?_
        refine WQ_val rfl gd0 (o_move (v := .bool false) rfl) rfl ?_
        refine WQ_skip rfl (gdN (b := false) 65 rfl rfl rfl) rfl ?_
        refine WQ_skip rfl (gdN (b := false) 65 rfl rfl rfl) rfl ?_
        refine WQ_skip rfl (gdN (b := false) 65 rfl rfl rfl) rfl ?_
        refine WQ_val rfl gd0 (o_pickF (v := .bool false) rfl rfl rfl) rfl ?_
        refine WQ_val rfl gd0 (o_move (v := .bool false) rfl) rfl ?_
        refine WQ_skip rfl (gdN (b := false) 70 rfl rfl rfl) rfl ?_
        refine WQ_skip rfl (gdN (b := false) 70 rfl rfl rfl) rfl ?_
        refine WQ_skip rfl (gdN (b := false) 70 rfl rfl rfl) rfl ?_
        refine WQ_skip rfl (gdU 73 rfl rfl) rfl ?_
        refine WQ_skip rfl (gdU 73 rfl rfl) rfl ?_
        refine WQ_skip rfl (gdU 73 rfl rfl) rfl ?_
        refine WQ_skip rfl (gdU 76 rfl rfl) rfl ?_
        refine WQ_skip rfl (gdU 76 rfl rfl) rfl ?_
        refine WQ_skip rfl (gdU 76 rfl rfl) rfl ?_
        refine WQ_skip rfl (gdU 73 rfl rfl) rfl ?_
        refine WQ_skip rfl (gdN (b := false) 70 rfl rfl rfl) rfl ?_
        refine WQ_val rfl gd0 (o_pickF (v := .bool false) rfl rfl rfl) rfl ?_
        refine WQ_val rfl gd0 (o_move (v := .bool false) rfl) rfl ?_
        refine WQ_passAct rfl (gdN (b := false) 83 rfl rfl rfl) rfl (by exact ⟨⟨trivial, depT (by kernel_rfl)⟩, depT (by kernel_rfl)⟩) ?_
        refine WQ_val rfl gd0 (o_pickF (v := .bool false) rfl rfl rfl) rfl ?_
        refine WQ_val rfl gd0 (o_assign (v := .bool false) rfl) rfl ?_
        refine WQ_nil ?_
        refine nrm ?_
        refine WC_ret ?_
        refine rtE ?_
        exact gv1 rfl rfl h
    · rw [if_neg (neT hb92)] at h
      refine WQ_skip rfl (gdN (b := x91) 46 rfl rfl hb92) rfl ?_
      refine WQ_skip rfl (gdN (b := x91) 46 rfl rfl hb92) rfl ?_
      refine WQ_skip rfl (gdN (b := x91) 46 rfl rfl hb92) rfl ?_
      refine WQ_skip rfl (gdN (b := x91) 46 rfl rfl hb92) rfl ?_
      refine WQ_passAct rfl (gdN (b := x91) 46 rfl rfl hb92) rfl (by exact ⟨trivial, depT (by kernel_rfl)⟩) ?_
      refine WQ_passAct rfl (gdN (b := x91) 46 rfl rfl hb92) rfl (by exact ⟨trivial, depT (by kernel_rfl)⟩) ?_
      refine WQ_val rfl gd0 (o_pickF (v := .bool false) rfl hb92 rfl) rfl ?_
      refine WQ_val rfl gd0 (o_move (v := .bool false) rfl) rfl ?_
      refine WQ_skip rfl (gdN (b := false) 54 rfl rfl rfl) rfl ?_
      refine WQ_skip rfl (gdN (b := false) 54 rfl rfl rfl) rfl ?_
      refine WQ_val rfl gd0 (o_pickF (v := .bool false) rfl rfl rfl) rfl ?_
      refine WQ_val rfl gd0 (o_move (v := .bool false) rfl) rfl ?_
      refine WQ_skip rfl (gdN (b := false) 58 rfl rfl rfl) rfl ?_
      refine WQ_skip rfl (gdN (b := false) 58 rfl rfl rfl) rfl ?_
      refine WQ_val rfl gd0 (o_pickF (v := .bool false) rfl rfl rfl) rfl ?_
      refine WQ_val rfl gd0 (o_move (v := .bool false) rfl) rfl ?_
      refine WQ_skip rfl (gdN (b := false) 62 rfl rfl rfl) rfl ?_
      refine WQ_val rfl gd0 (o_pickF (v := .bool false) rfl rfl rfl) rfl ?_
      refine WQ_val rfl gd0 (o_move (v := .bool false) rfl) rfl ?_
      refine WQ_skip rfl (gdN (b := false) 65 rfl rfl rfl) rfl ?_
      refine WQ_skip rfl (gdN (b := false) 65 rfl rfl rfl) rfl ?_
      refine WQ_skip rfl (gdN (b := false) 65 rfl rfl rfl) rfl ?_
      refine WQ_val rfl gd0 (o_pickF (v := .bool false) rfl rfl rfl) rfl ?_
      refine WQ_val rfl gd0 (o_move (v := .bool false) rfl) rfl ?_
      refine WQ_skip rfl (gdN (b := false) 70 rfl rfl rfl) rfl ?_
      refine WQ_skip rfl (gdN (b := false) 70 rfl rfl rfl) rfl ?_
      refine WQ_skip rfl (gdN (b := false) 70 rfl rfl rfl) rfl ?_
      refine WQ_skip rfl (gdU 73 rfl rfl) rfl ?_
      refine WQ_skip rfl (gdU 73 rfl rfl) rfl ?_
      refine WQ_skip rfl (gdU 73 rfl rfl) rfl ?_
      refine WQ_skip rfl (gdU 76 rfl rfl) rfl ?_
      refine WQ_skip rfl (gdU 76 rfl rfl) rfl ?_
      refine WQ_skip rfl (gdU 76 rfl rfl) rfl ?_
      refine WQ_skip rfl (gdU 73 rfl rfl) rfl ?_
      refine WQ_skip rfl (gdN (b := false) 70 rfl rfl rfl) rfl ?_
      refine WQ_val rfl gd0 (o_pickF (v := .bool false) rfl rfl rfl) rfl ?_
      refine WQ_val rfl gd0 (o_move (v := .bool false) rfl) rfl ?_
      refine WQ_passAct rfl (gdN (b := false) 83 rfl rfl rfl) rfl (by exact ⟨trivial, depT (by kernel_rfl)⟩) ?_
      refine WQ_val rfl gd0 (o_pickF (v := .bool false) rfl rfl rfl) rfl ?_
      refine WQ_val rfl gd0 (o_assign (v := .bool false) rfl) rfl ?_
      refine WQ_nil ?_
      refine nrm ?_
      refine WC_ret ?_
      refine rtE ?_
      exact gv1 rfl rfl h

/-- spacecraft spacecraftlaw14.TcframeBack -/
def F6 (f1 : Bool) (f2 : Bool) (f3 : Int) (f4 : Int) (f5 : Int) (f_a6 : Option Addr) (f_n7 : Nat) (f_c8 : Nat) (at9 : Int) (pattern10 : Int) (w11 : World) (k : Value → World → Prop) : Prop :=
  New w11 24 [.bool f1, .bool f2, .int .i64 f3, .int .i64 f4, .int .i64 f5, .slice f_a6 f_n7 f_c8] (fun p12 w13 => ∃ (x_a14 : Option Addr) (x_n15 x_c16 : Nat), w13.cell? (p12.add 5) = some (.slice x_a14 x_n15 x_c16) ∧ if 1100 < (x_n15 : Int) then
  Does Try.prog 8 #[] w13 (fun v w19 => ∃ (t20 : Bool), v = .bool t20 ∧ k (.bool t20) w19)
else
  ∃ (x21 x22 : Bool) (x23 x24 x25 : Int) (x_a26 : Option Addr) (x_n27 x_c28 : Nat), Cells w13 p12 0 [.bool x21, .bool x22, .int .i64 x23, .int .i64 x24, .int .i64 x25, .slice x_a26 x_n27 x_c28] ∧ Does Try.prog 9 #[.agg #[.bool x21, .bool x22, .int .i64 x23, .int .i64 x24, .int .i64 x25, .slice x_a26 x_n27 x_c28]] w13 (fun v w30 => ∃ (r_a31 : Option Addr) (r_n32 r_c33 : Nat) (r34 : Int), v = .tuple #[.slice r_a31 r_n32 r_c33, .int .i64 r34] ∧ if r34 ≠ 0 then
    if (r_n32 : Int) = 0 then
      ∃ (x37 x38 : Bool) (x39 x40 x41 : Int) (x_a42 : Option Addr) (x_n43 x_c44 : Nat), Cells w30 p12 0 [.bool x37, .bool x38, .int .i64 x39, .int .i64 x40, .int .i64 x41, .slice x_a42 x_n43 x_c44] ∧ Does Try.prog 13 #[.agg #[.bool x37, .bool x38, .int .i64 x39, .int .i64 x40, .int .i64 x41, .slice x_a42 x_n43 x_c44]] w30 (fun v w46 => ∃ (x47 : Bool), v = .bool x47 ∧ if (!x47) = true then
        Does Try.prog 8 #[] w46 (fun v w49 => ∃ (x50 : Bool), v = .bool x50 ∧ k (.bool x50) w49)
      else
        k (.bool false) w46)
    else
      k (.bool false) w30
  else
    ∃ (x_a51 : Option Addr) (x_n52 x_c53 : Nat), w30.cell? (p12.add 5) = some (.slice x_a51 x_n52 x_c53) ∧ if (r_n32 : Int) ≠ (IntKind.i64.wrap ((x_n52 : Int) + 7)) then
      k (.bool false) w30
    else
      Does Try.prog 15 #[.slice r_a31 r_n32 r_c33] w30 (fun v w56 => ∃ (r57 r58 : Bool) (r59 r60 r61 : Int) (r_a62 : Option Addr) (r_n63 r_c64 : Nat) (r65 : Int), v = .tuple #[.agg #[.bool r57, .bool r58, .int .i64 r59, .int .i64 r60, .int .i64 r61, .slice r_a62 r_n63 r_c64], .int .i64 r65] ∧ New w56 24 [.bool false, .bool false, .int .i64 0, .int .i64 0, .int .i64 0, .slice none 0 0] (fun p66 w67 => PutAll w67 p66 [.bool r57, .bool r58, .int .i64 r59, .int .i64 r60, .int .i64 r61, .slice r_a62 r_n63 r_c64] (fun w68 => IntKind.i64.wrap (8 * (r_n32 : Int)) ≠ 0 ∧ Does Try.prog 22 #[.slice r_a31 r_n32 r_c33, .int .i64 (Int.tmod (IntKind.i64.wrap at9) (IntKind.i64.wrap (8 * (r_n32 : Int)))), .int .u16 pattern10] w68 (fun v w71 => ∃ (x_a72 : Option Addr) (x_n73 x_c74 : Nat), v = .slice x_a72 x_n73 x_c74 ∧ Does Try.prog 15 #[.slice x_a72 x_n73 x_c74] w71 (fun v w75 => ∃ (r76 r77 : Bool) (r78 r79 r80 : Int) (r_a81 : Option Addr) (r_n82 r_c83 : Nat) (r84 : Int), v = .tuple #[.agg #[.bool r76, .bool r77, .int .i64 r78, .int .i64 r79, .int .i64 r80, .slice r_a81 r_n82 r_c83], .int .i64 r84] ∧ New w75 24 [.bool false, .bool false, .int .i64 0, .int .i64 0, .int .i64 0, .slice none 0 0] (fun p85 w86 => PutAll w86 p85 [.bool r76, .bool r77, .int .i64 r78, .int .i64 r79, .int .i64 r80, .slice r_a81 r_n82 r_c83] (fun w87 => if r65 = 0 then
        ∃ (x90 x91 : Bool) (x92 x93 x94 : Int) (x_a95 : Option Addr) (x_n96 x_c97 : Nat), Cells w87 p12 0 [.bool x90, .bool x91, .int .i64 x92, .int .i64 x93, .int .i64 x94, .slice x_a95 x_n96 x_c97] ∧ ∃ (x99 x100 : Bool) (x101 x102 x103 : Int) (x_a104 : Option Addr) (x_n105 x_c106 : Nat), Cells w87 p66 0 [.bool x99, .bool x100, .int .i64 x101, .int .i64 x102, .int .i64 x103, .slice x_a104 x_n105 x_c106] ∧ Does Try.prog 17 #[.agg #[.bool x90, .bool x91, .int .i64 x92, .int .i64 x93, .int .i64 x94, .slice x_a95 x_n96 x_c97], .agg #[.bool x99, .bool x100, .int .i64 x101, .int .i64 x102, .int .i64 x103, .slice x_a104 x_n105 x_c106]] w87 (fun v w108 => ∃ (x109 : Bool), v = .bool x109 ∧ if x109 = true then
          ∃ (s111 : ByteArray), (Conv.bytesToString (.slice x_a72 x_n73 x_c74)).run Try.prog w108 = .ok (.string s111) w108 ∧ ∃ (s113 : ByteArray), (Conv.bytesToString (.slice r_a31 r_n32 r_c33)).run Try.prog w108 = .ok (.string s113) w108 ∧ if (s111.toList == s113.toList) = true then
            Does Try.prog 8 #[] w108 (fun v w116 => ∃ (x117 : Bool), v = .bool x117 ∧ k (.bool x117) w116)
          else
            if r84 = 5 then
              Does Try.prog 8 #[] w108 (fun v w119 => ∃ (x120 : Bool), v = .bool x120 ∧ k (.bool x120) w119)
            else
              k (.bool false) w108
        else
          k (.bool false) w108)
      else
        k (.bool false) w87)))))))))
set_option maxRecDepth 100000 in
set_option maxHeartbeats 2000000 in
theorem w6 (f1 : Bool) (f2 : Bool) (f3 : Int) (f4 : Int) (f5 : Int) (f_a6 : Option Addr) (f_n7 : Nat) (f_c8 : Nat) (at9 : Int) (pattern10 : Int) (w11 : World) (k : Value → World → Prop) (h : F6 f1 f2 f3 f4 f5 f_a6 f_n7 f_c8 at9 pattern10 w11 k) : Does Try.prog 6 #[.agg #[.bool f1, .bool f2, .int .i64 f3, .int .i64 f4, .int .i64 f5, .slice f_a6 f_n7 f_c8], .int .u16 at9, .int .u16 pattern10] w11 k := by
  refine enter 84 Try.func6 rfl rfl rfl ?_
  intro ρ hρ
  have e0 := hρ 0 _ rfl
  have e1 := hρ 1 _ rfl
  have e2 := hρ 2 _ rfl
  unfold F6 at h
  refine WC_seq ?_
  refine WC_region ?_
  have h := New.out h
  refine WL_val gd0 (o_box (v := .agg #[.bool f1, .bool f2, .int .i64 f3, .int .i64 f4, .int .i64 f5, .slice f_a6 f_n7 f_c8]) (cs := [.bool f1, .bool f2, .int .i64 f3, .int .i64 f4, .int .i64 f5, .slice f_a6 f_n7 f_c8]) (by exact e0) rfl) rfl ?_
  generalize hp12 : fresh w11 = p12 at h ⊢
  generalize hw13 : push w11 24 [.bool f1, .bool f2, .int .i64 f3, .int .i64 f4, .int .i64 f5, .slice f_a6 f_n7 f_c8] = w13 at h ⊢
  try dsimp only at h
  refine WL_val gd0 ((o_assign (v := .bool false) rfl) _) rfl ?_
  refine WL_nil ?_
  refine nrm ?_
  refine WC_seq ?_
  refine WC_seq ?_
  refine WC_region ?_
  refine WL_val gd0 ((o_fieldAddr 5 Try.underlying24 rfl Try.sizeOf22 rfl rfl rfl) _) rfl ?_
  obtain ⟨x_a14, x_n15, x_c16, hc17, h⟩ := h
  refine WL_val gd0 (o_load Try.isAgg22 rfl hc17) rfl ?_
  refine WL_val gd0 ((o_len Try.underlying22 rfl) _) rfl ?_
  refine WL_val gd0 ((o_gtr rfl rfl) _) rfl ?_
  refine WL_nil ?_
  refine nrm ?_
  refine WC_cond (t := (decide (1100 < (x_n15 : Int)))) rfl (fun hb18 => ?_) (fun hb18 => ?_)
  · rw [if_pos (of_decide_eq_true hb18)] at h
    refine WC_seq ?_
    refine WC_region ?_
    refine WL_call gd0 (o_call Try.call8 argNil _) rfl (h.mono ?_)
    rintro _ w19 ⟨t20, rfl, h⟩
    refine WL_val gd0 ((o_assign (v := .bool t20) rfl) _) rfl ?_
    refine WL_nil ?_
    refine nrm ?_
    refine WC_ret ?_
    refine rtT ?_
    refine rtE ?_
    exact gv1 rfl rfl h
  · rw [if_neg (of_decide_eq_false hb18)] at h
    refine WC_skip ?_
    refine nrm ?_
    refine WC_seq ?_
    refine WC_region ?_
    obtain ⟨x21, x22, x23, x24, x25, x_a26, x_n27, x_c28, hc29, h⟩ := h
    refine WL_val gd0 (o_loadAgg (vs := [.bool x21, .bool x22, .int .i64 x23, .int .i64 x24, .int .i64 x25, .slice x_a26 x_n27 x_c28]) Try.isAgg24 Try.sizeOf24 rfl hc29) rfl ?_
    refine WL_call gd0 (o_call Try.call9 (argCons rfl argNil) _) rfl (h.mono ?_)
    rintro _ w30 ⟨r_a31, r_n32, r_c33, r34, rfl, h⟩
    refine WL_val gd0 ((o_move (v := .tuple #[.slice r_a31 r_n32 r_c33, .int .i64 r34]) rfl) _) rfl ?_
    refine WL_val gd0 ((o_extract (vs := [.slice r_a31 r_n32 r_c33, .int .i64 r34]) (r := .slice r_a31 r_n32 r_c33) rfl rfl) _) rfl ?_
    refine WL_val gd0 ((o_extract (vs := [.slice r_a31 r_n32 r_c33, .int .i64 r34]) (r := .int .i64 r34) rfl rfl) _) rfl ?_
    refine WL_val gd0 ((o_assign (v := .slice r_a31 r_n32 r_c33) rfl) _) rfl ?_
    refine WL_val gd0 ((o_assign (v := .int .i64 r34) rfl) _) rfl ?_
    refine WL_nil ?_
    refine nrm ?_
    refine WC_seq ?_
    refine WC_seq ?_
    refine WC_region ?_
    refine WL_val gd0 ((o_move (v := .int .i64 r34) rfl) _) rfl ?_
    refine WL_val gd0 ((o_neq rfl rfl) _) rfl ?_
    refine WL_nil ?_
    refine nrm ?_
    refine WC_cond (t := (decide (r34 ≠ 0))) rfl (fun hb35 => ?_) (fun hb35 => ?_)
    · rw [if_pos (of_decide_eq_true hb35)] at h
      refine WC_seq ?_
      refine WC_region ?_
      refine WL_val gd0 ((o_move (v := .slice r_a31 r_n32 r_c33) rfl) _) rfl ?_
      refine WL_val gd0 ((o_len Try.underlying22 rfl) _) rfl ?_
      refine WL_val gd0 ((o_eql rfl rfl) _) rfl ?_
      refine WL_val gd0 ((o_move (v := .bool (decide ((r_n32 : Int) = 0))) rfl) _) rfl ?_
      refine bsplit (decide ((r_n32 : Int) = 0)) (fun hb36 => ?_) (fun hb36 => ?_)
      · rw [if_pos (of_decide_eq_true hb36)] at h
        obtain ⟨x37, x38, x39, x40, x41, x_a42, x_n43, x_c44, hc45, h⟩ := h
        refine WL_val (gdY (b := (decide ((r_n32 : Int) = 0))) 29 rfl rfl hb36) (o_loadAgg (vs := [.bool x37, .bool x38, .int .i64 x39, .int .i64 x40, .int .i64 x41, .slice x_a42 x_n43 x_c44]) Try.isAgg24 Try.sizeOf24 rfl hc45) rfl ?_
        refine WL_call (gdY (b := (decide ((r_n32 : Int) = 0))) 29 rfl rfl hb36) (o_call Try.call13 (argCons rfl argNil) _) rfl (h.mono ?_)
        rintro _ w46 ⟨x47, rfl, h⟩
        refine WL_val (gdY (b := (decide ((r_n32 : Int) = 0))) 29 rfl rfl hb36) ((o_not rfl) _) rfl ?_
        refine WL_val gd0 ((o_pickT (v := .bool (!x47)) rfl hb36 rfl) _) rfl ?_
        refine WL_val gd0 ((o_move (v := .bool (!x47)) rfl) _) rfl ?_
        refine bsplit (!x47) (fun hb48 => ?_) (fun hb48 => ?_)
        · rw [if_pos hb48] at h
          refine WL_call (gdY (b := (!x47)) 34 rfl rfl hb48) (o_call Try.call8 argNil _) rfl (h.mono ?_)
          rintro _ w49 ⟨x50, rfl, h⟩
          refine WL_val gd0 ((o_pickT (v := .bool x50) rfl hb48 rfl) _) rfl ?_
          refine WL_val gd0 ((o_assign (v := .bool x50) rfl) _) rfl ?_
          refine WL_nil ?_
          refine nrm ?_
          refine WC_ret ?_
          refine rtT ?_
          refine rtE ?_
          exact gv1 rfl rfl h
        · rw [if_neg (neT hb48)] at h
          refine WL_skip (gdN (b := (!x47)) 34 rfl rfl hb48) rfl ?_
          refine WL_val gd0 ((o_pickF (v := .bool false) rfl hb48 rfl) _) rfl ?_
          refine WL_val gd0 ((o_assign (v := .bool false) rfl) _) rfl ?_
          refine WL_nil ?_
          refine nrm ?_
          refine WC_ret ?_
          refine rtT ?_
          refine rtE ?_
          exact gv1 rfl rfl h
      · rw [if_neg (of_decide_eq_false hb36)] at h
        refine WL_skip (gdN (b := (decide ((r_n32 : Int) = 0))) 29 rfl rfl hb36) rfl ?_
        refine WL_skip (gdN (b := (decide ((r_n32 : Int) = 0))) 29 rfl rfl hb36) rfl ?_
        refine WL_skip (gdN (b := (decide ((r_n32 : Int) = 0))) 29 rfl rfl hb36) rfl ?_
        refine WL_val gd0 ((o_pickF (v := .bool false) rfl hb36 rfl) _) rfl ?_
        refine WL_val gd0 ((o_move (v := .bool false) rfl) _) rfl ?_
        refine WL_skip (gdN (b := false) 34 rfl rfl rfl) rfl ?_
        refine WL_val gd0 ((o_pickF (v := .bool false) rfl rfl rfl) _) rfl ?_
        refine WL_val gd0 ((o_assign (v := .bool false) rfl) _) rfl ?_
        refine WL_nil ?_
        refine nrm ?_
        refine WC_ret ?_
        refine rtT ?_
        refine rtE ?_
        exact gv1 rfl rfl h
    · rw [if_neg (of_decide_eq_false hb35)] at h
      refine WC_skip ?_
      refine nrm ?_
      refine WC_seq ?_
      refine WC_seq ?_
      refine WC_region ?_
      refine WL_val gd0 ((o_move (v := .slice r_a31 r_n32 r_c33) rfl) _) rfl ?_
      refine WL_val gd0 ((o_len Try.underlying22 rfl) _) rfl ?_
      refine WL_val gd0 ((o_fieldAddr 5 Try.underlying24 rfl Try.sizeOf22 rfl rfl rfl) _) rfl ?_
      obtain ⟨x_a51, x_n52, x_c53, hc54, h⟩ := h
      refine WL_val gd0 (o_load Try.isAgg22 rfl hc54) rfl ?_
      refine WL_val gd0 ((o_len Try.underlying22 rfl) _) rfl ?_
      refine WL_val gd0 ((o_add rfl rfl) _) rfl ?_
      refine WL_val gd0 ((o_neq rfl rfl) _) rfl ?_
      refine WL_nil ?_
      refine nrm ?_
      refine WC_cond (t := (decide ((r_n32 : Int) ≠ (IntKind.i64.wrap ((x_n52 : Int) + 7))))) rfl (fun hb55 => ?_) (fun hb55 => ?_)
      · rw [if_pos (of_decide_eq_true hb55)] at h
        refine WC_seq ?_
        refine WC_region ?_
        refine WL_val gd0 ((o_assign (v := .bool false) rfl) _) rfl ?_
        refine WL_nil ?_
        refine nrm ?_
        refine WC_ret ?_
        refine rtT ?_
        refine rtE ?_
        exact gv1 rfl rfl h
      · rw [if_neg (of_decide_eq_false hb55)] at h
        refine WC_skip ?_
        refine nrm ?_
        refine WC_seq ?_
        refine WC_region ?_
        refine WL_val gd0 ((o_move (v := .slice r_a31 r_n32 r_c33) rfl) _) rfl ?_
        refine WL_call gd0 (o_call Try.call15 (argCons rfl argNil) _) rfl (h.mono ?_)
        rintro _ w56 ⟨r57, r58, r59, r60, r61, r_a62, r_n63, r_c64, r65, rfl, h⟩
        refine WL_val gd0 ((o_move (v := .tuple #[.agg #[.bool r57, .bool r58, .int .i64 r59, .int .i64 r60, .int .i64 r61, .slice r_a62 r_n63 r_c64], .int .i64 r65]) rfl) _) rfl ?_
        refine WL_val gd0 ((o_extract (vs := [.agg #[.bool r57, .bool r58, .int .i64 r59, .int .i64 r60, .int .i64 r61, .slice r_a62 r_n63 r_c64], .int .i64 r65]) (r := .agg #[.bool r57, .bool r58, .int .i64 r59, .int .i64 r60, .int .i64 r61, .slice r_a62 r_n63 r_c64]) rfl rfl) _) rfl ?_
        refine WL_val gd0 ((o_extract (vs := [.agg #[.bool r57, .bool r58, .int .i64 r59, .int .i64 r60, .int .i64 r61, .slice r_a62 r_n63 r_c64], .int .i64 r65]) (r := .int .i64 r65) rfl rfl) _) rfl ?_
        have h := New.out h
        refine WL_val gd0 (o_alloc (z := .agg #[.bool false, .bool false, .int .i64 0, .int .i64 0, .int .i64 0, .slice none 0 0]) (cs := [.bool false, .bool false, .int .i64 0, .int .i64 0, .int .i64 0, .slice none 0 0]) Try.zeroValue24 rfl) rfl ?_
        generalize hp66 : fresh w56 = p66 at h ⊢
        generalize hw67 : push w56 24 [.bool false, .bool false, .int .i64 0, .int .i64 0, .int .i64 0, .slice none 0 0] = w67 at h ⊢
        try dsimp only at h
        obtain ⟨c69, h⟩ := h
        refine WL_act gd0 (o_storeAgg (vs := [.bool r57, .bool r58, .int .i64 r59, .int .i64 r60, .int .i64 r61, .slice r_a62 r_n63 r_c64]) Try.sizeOf24 rfl rfl rfl c69) ?_
        generalize hw68 : setAll w67 p66 0 [.bool r57, .bool r58, .int .i64 r59, .int .i64 r60, .int .i64 r61, .slice r_a62 r_n63 r_c64] = w68 at h ⊢
        try dsimp only at h
        refine WL_val gd0 ((o_assign (v := .int .i64 r65) rfl) _) rfl ?_
        refine WL_nil ?_
        refine nrm ?_
        refine WC_seq ?_
        refine WC_region ?_
        refine WL_val gd0 ((o_move (v := .slice r_a31 r_n32 r_c33) rfl) _) rfl ?_
        refine WL_val gd0 ((o_move (v := .int .u16 at9) (by exact e1)) _) rfl ?_
        refine WL_val gd0 ((o_conv Try.underlying39 Try.underlying3 rfl) _) rfl ?_
        refine WL_val gd0 ((o_move (v := .slice r_a31 r_n32 r_c33) rfl) _) rfl ?_
        refine WL_val gd0 ((o_len Try.underlying22 rfl) _) rfl ?_
        refine WL_val gd0 ((o_mul rfl rfl) _) rfl ?_
        obtain ⟨c70, h⟩ := h
        refine WL_val gd0 ((fun w => o_rem rfl rfl w c70) _) rfl ?_
        refine WL_val gd0 ((o_move (v := .int .u16 pattern10) (by exact e2)) _) rfl ?_
        refine WL_call gd0 (o_call Try.call22 (argCons rfl (argCons rfl (argCons rfl argNil))) _) rfl (h.mono ?_)
        rintro _ w71 ⟨x_a72, x_n73, x_c74, rfl, h⟩
        refine WL_val gd0 ((o_assign (v := .slice x_a72 x_n73 x_c74) rfl) _) rfl ?_
        refine WL_nil ?_
        refine nrm ?_
        refine WC_seq ?_
        refine WC_region ?_
        refine WL_val gd0 ((o_move (v := .slice x_a72 x_n73 x_c74) rfl) _) rfl ?_
        refine WL_call gd0 (o_call Try.call15 (argCons rfl argNil) _) rfl (h.mono ?_)
        rintro _ w75 ⟨r76, r77, r78, r79, r80, r_a81, r_n82, r_c83, r84, rfl, h⟩
        refine WL_val gd0 ((o_move (v := .tuple #[.agg #[.bool r76, .bool r77, .int .i64 r78, .int .i64 r79, .int .i64 r80, .slice r_a81 r_n82 r_c83], .int .i64 r84]) rfl) _) rfl ?_
        refine WL_val gd0 ((o_extract (vs := [.agg #[.bool r76, .bool r77, .int .i64 r78, .int .i64 r79, .int .i64 r80, .slice r_a81 r_n82 r_c83], .int .i64 r84]) (r := .agg #[.bool r76, .bool r77, .int .i64 r78, .int .i64 r79, .int .i64 r80, .slice r_a81 r_n82 r_c83]) rfl rfl) _) rfl ?_
        refine WL_val gd0 ((o_extract (vs := [.agg #[.bool r76, .bool r77, .int .i64 r78, .int .i64 r79, .int .i64 r80, .slice r_a81 r_n82 r_c83], .int .i64 r84]) (r := .int .i64 r84) rfl rfl) _) rfl ?_
        have h := New.out h
        refine WL_val gd0 (o_alloc (z := .agg #[.bool false, .bool false, .int .i64 0, .int .i64 0, .int .i64 0, .slice none 0 0]) (cs := [.bool false, .bool false, .int .i64 0, .int .i64 0, .int .i64 0, .slice none 0 0]) Try.zeroValue24 rfl) rfl ?_
        generalize hp85 : fresh w75 = p85 at h ⊢
        generalize hw86 : push w75 24 [.bool false, .bool false, .int .i64 0, .int .i64 0, .int .i64 0, .slice none 0 0] = w86 at h ⊢
        try dsimp only at h
        obtain ⟨c88, h⟩ := h
        refine WL_act gd0 (o_storeAgg (vs := [.bool r76, .bool r77, .int .i64 r78, .int .i64 r79, .int .i64 r80, .slice r_a81 r_n82 r_c83]) Try.sizeOf24 rfl rfl rfl c88) ?_
        generalize hw87 : setAll w86 p85 0 [.bool r76, .bool r77, .int .i64 r78, .int .i64 r79, .int .i64 r80, .slice r_a81 r_n82 r_c83] = w87 at h ⊢
        try dsimp only at h
        refine WL_val gd0 ((o_assign (v := .int .i64 r84) rfl) _) rfl ?_
        refine WL_nil ?_
        refine nrm ?_
        refine WC_seq ?_
        refine WC_region ?_
        refine WL_val gd0 ((o_move (v := .int .i64 r65) rfl) _) rfl ?_
        refine WL_val gd0 ((o_eql rfl rfl) _) rfl ?_
        refine WL_val gd0 ((o_move (v := .bool (decide (r65 = 0))) rfl) _) rfl ?_
        refine bsplit (decide (r65 = 0)) (fun hb89 => ?_) (fun hb89 => ?_)
        · rw [if_pos (of_decide_eq_true hb89)] at h
          obtain ⟨x90, x91, x92, x93, x94, x_a95, x_n96, x_c97, hc98, h⟩ := h
          refine WL_val (gdY (b := (decide (r65 = 0))) 65 rfl rfl hb89) (o_loadAgg (vs := [.bool x90, .bool x91, .int .i64 x92, .int .i64 x93, .int .i64 x94, .slice x_a95 x_n96 x_c97]) Try.isAgg24 Try.sizeOf24 rfl hc98) rfl ?_
          obtain ⟨x99, x100, x101, x102, x103, x_a104, x_n105, x_c106, hc107, h⟩ := h
          refine WL_val (gdY (b := (decide (r65 = 0))) 65 rfl rfl hb89) (o_loadAgg (vs := [.bool x99, .bool x100, .int .i64 x101, .int .i64 x102, .int .i64 x103, .slice x_a104 x_n105 x_c106]) Try.isAgg24 Try.sizeOf24 rfl hc107) rfl ?_
          refine WL_call (gdY (b := (decide (r65 = 0))) 65 rfl rfl hb89) (o_call Try.call17 (argCons rfl (argCons rfl argNil)) _) rfl (h.mono ?_)
          rintro _ w108 ⟨x109, rfl, h⟩
          refine WL_val gd0 ((o_pickT (v := .bool x109) rfl hb89 rfl) _) rfl ?_
          refine WL_val gd0 ((o_move (v := .bool x109) rfl) _) rfl ?_
          refine bsplit x109 (fun hb110 => ?_) (fun hb110 => ?_)
          · rw [if_pos hb110] at h
            refine WL_val (gdY (b := x109) 70 rfl rfl hb110) ((o_move (v := .slice x_a72 x_n73 x_c74) rfl) _) rfl ?_
            obtain ⟨s111, r112, h⟩ := h
            refine WL_val (gdY (b := x109) 70 rfl rfl hb110) (o_toStr Try.underlying22 Try.underlying5 Try.underlying9 rfl r112) rfl ?_
            refine WL_val (gdY (b := x109) 70 rfl rfl hb110) ((o_move (v := .slice r_a31 r_n32 r_c33) rfl) _) rfl ?_
            obtain ⟨s113, r114, h⟩ := h
            refine WL_val (gdY (b := x109) 70 rfl rfl hb110) (o_toStr Try.underlying22 Try.underlying5 Try.underlying9 rfl r114) rfl ?_
            refine WL_val (gdY (b := x109) 70 rfl rfl hb110) ((o_eqlStr rfl rfl) _) rfl ?_
            refine WL_val (gdY (b := x109) 70 rfl rfl hb110) ((o_move (v := .bool (s111.toList == s113.toList)) rfl) _) rfl ?_
            refine bsplit (s111.toList == s113.toList) (fun hb115 => ?_) (fun hb115 => ?_)
            · rw [if_pos hb115] at h
              refine WL_skip (gdN (b := (s111.toList == s113.toList)) 76 rfl rfl hb115) rfl ?_
              refine WL_skip (gdN (b := (s111.toList == s113.toList)) 76 rfl rfl hb115) rfl ?_
              refine WL_val (gdY (b := x109) 70 rfl rfl hb110) ((o_pickT (v := .bool true) rfl hb115 rfl) _) rfl ?_
              refine WL_val gd0 ((o_pickT (v := .bool true) rfl hb110 rfl) _) rfl ?_
              refine WL_val gd0 ((o_move (v := .bool true) rfl) _) rfl ?_
              refine WL_call (gdY (b := true) 81 rfl rfl rfl) (o_call Try.call8 argNil _) rfl (h.mono ?_)
              rintro _ w116 ⟨x117, rfl, h⟩
              refine WL_val gd0 ((o_pickT (v := .bool x117) rfl rfl rfl) _) rfl ?_
              refine WL_val gd0 ((o_assign (v := .bool x117) rfl) _) rfl ?_
              refine WL_nil ?_
              refine nrm ?_
              refine WC_ret ?_
              refine rtE ?_
              exact gv1 rfl rfl h
            · rw [if_neg (neT hb115)] at h
              refine WL_val (gdY (b := (s111.toList == s113.toList)) 76 rfl rfl hb115) ((o_move (v := .int .i64 r84) rfl) _) rfl ?_
              refine WL_val (gdY (b := (s111.toList == s113.toList)) 76 rfl rfl hb115) ((o_eql rfl rfl) _) rfl ?_
              refine WL_val (gdY (b := x109) 70 rfl rfl hb110) ((o_pickF (v := .bool (decide (r84 = 5))) rfl hb115 rfl) _) rfl ?_
              refine WL_val gd0 ((o_pickT (v := .bool (decide (r84 = 5))) rfl hb110 rfl) _) rfl ?_
              refine WL_val gd0 ((o_move (v := .bool (decide (r84 = 5))) rfl) _) rfl ?_
              refine bsplit (decide (r84 = 5)) (fun hb118 => ?_) (fun hb118 => ?_)
              · rw [if_pos (of_decide_eq_true hb118)] at h
                refine WL_call (gdY (b := (decide (r84 = 5))) 81 rfl rfl hb118) (o_call Try.call8 argNil _) rfl (h.mono ?_)
                rintro _ w119 ⟨x120, rfl, h⟩
                refine WL_val gd0 ((o_pickT (v := .bool x120) rfl hb118 rfl) _) rfl ?_
                refine WL_val gd0 ((o_assign (v := .bool x120) rfl) _) rfl ?_
                refine WL_nil ?_
                refine nrm ?_
                refine WC_ret ?_
                refine rtE ?_
                exact gv1 rfl rfl h
              · rw [if_neg (of_decide_eq_false hb118)] at h
                refine WL_skip (gdN (b := (decide (r84 = 5))) 81 rfl rfl hb118) rfl ?_
                refine WL_val gd0 ((o_pickF (v := .bool false) rfl hb118 rfl) _) rfl ?_
                refine WL_val gd0 ((o_assign (v := .bool false) rfl) _) rfl ?_
                refine WL_nil ?_
                refine nrm ?_
                refine WC_ret ?_
                refine rtE ?_
                exact gv1 rfl rfl h
          · rw [if_neg (neT hb110)] at h
            refine WL_skip (gdN (b := x109) 70 rfl rfl hb110) rfl ?_
            refine WL_skip (gdN (b := x109) 70 rfl rfl hb110) rfl ?_
            refine WL_skip (gdN (b := x109) 70 rfl rfl hb110) rfl ?_
            refine WL_skip (gdN (b := x109) 70 rfl rfl hb110) rfl ?_
            refine WL_skip (gdN (b := x109) 70 rfl rfl hb110) rfl ?_
            refine WL_skip (gdN (b := x109) 70 rfl rfl hb110) rfl ?_
            refine WL_skip (gdU 76 rfl rfl) rfl ?_
            refine WL_skip (gdU 76 rfl rfl) rfl ?_
            refine WL_skip (gdN (b := x109) 70 rfl rfl hb110) rfl ?_
            refine WL_val gd0 ((o_pickF (v := .bool false) rfl hb110 rfl) _) rfl ?_
            refine WL_val gd0 ((o_move (v := .bool false) rfl) _) rfl ?_
            refine WL_skip (gdN (b := false) 81 rfl rfl rfl) rfl ?_
            refine WL_val gd0 ((o_pickF (v := .bool false) rfl rfl rfl) _) rfl ?_
            refine WL_val gd0 ((o_assign (v := .bool false) rfl) _) rfl ?_
            refine WL_nil ?_
            refine nrm ?_
            refine WC_ret ?_
            refine rtE ?_
            exact gv1 rfl rfl h
        · rw [if_neg (of_decide_eq_false hb89)] at h
          refine WL_skip (gdN (b := (decide (r65 = 0))) 65 rfl rfl hb89) rfl ?_
          refine WL_skip (gdN (b := (decide (r65 = 0))) 65 rfl rfl hb89) rfl ?_
          refine WL_skip (gdN (b := (decide (r65 = 0))) 65 rfl rfl hb89) rfl ?_
          refine WL_val gd0 ((o_pickF (v := .bool false) rfl hb89 rfl) _) rfl ?_
          refine WL_val gd0 ((o_move (v := .bool false) rfl) _) rfl ?_
          refine WL_skip (gdN (b := false) 70 rfl rfl rfl) rfl ?_
          refine WL_skip (gdN (b := false) 70 rfl rfl rfl) rfl ?_
          refine WL_skip (gdN (b := false) 70 rfl rfl rfl) rfl ?_
          refine WL_skip (gdN (b := false) 70 rfl rfl rfl) rfl ?_
          refine WL_skip (gdN (b := false) 70 rfl rfl rfl) rfl ?_
          refine WL_skip (gdN (b := false) 70 rfl rfl rfl) rfl ?_
          refine WL_skip (gdU 76 rfl rfl) rfl ?_
          refine WL_skip (gdU 76 rfl rfl) rfl ?_
          refine WL_skip (gdN (b := false) 70 rfl rfl rfl) rfl ?_
          refine WL_val gd0 ((o_pickF (v := .bool false) rfl rfl rfl) _) rfl ?_
          refine WL_val gd0 ((o_move (v := .bool false) rfl) _) rfl ?_
          refine WL_skip (gdN (b := false) 81 rfl rfl rfl) rfl ?_
          refine WL_val gd0 ((o_pickF (v := .bool false) rfl rfl rfl) _) rfl ?_
          refine WL_val gd0 ((o_assign (v := .bool false) rfl) _) rfl ?_
          refine WL_nil ?_
          refine nrm ?_
          refine WC_ret ?_
          refine rtE ?_
          exact gv1 rfl rfl h

/-- spacecraft spacecraftlaw14.TcframeOnly -/
def F7 (b_a1 : Option Addr) (b_n2 : Nat) (b_c3 : Nat) (w4 : World) (k : Value → World → Prop) : Prop :=
  if 1100 < (b_n2 : Int) then
  Does Try.prog 8 #[] w4 (fun v w6 => ∃ (t7 : Bool), v = .bool t7 ∧ k (.bool t7) w6)
else
  Does Try.prog 15 #[.slice b_a1 b_n2 b_c3] w4 (fun v w8 => ∃ (r9 r10 : Bool) (r11 r12 r13 : Int) (r_a14 : Option Addr) (r_n15 r_c16 : Nat) (r17 : Int), v = .tuple #[.agg #[.bool r9, .bool r10, .int .i64 r11, .int .i64 r12, .int .i64 r13, .slice r_a14 r_n15 r_c16], .int .i64 r17] ∧ New w8 24 [.bool false, .bool false, .int .i64 0, .int .i64 0, .int .i64 0, .slice none 0 0] (fun p18 w19 => PutAll w19 p18 [.bool r9, .bool r10, .int .i64 r11, .int .i64 r12, .int .i64 r13, .slice r_a14 r_n15 r_c16] (fun w20 => if r17 ≠ 0 then
    ∃ (x23 x24 : Bool) (x25 x26 x27 : Int) (x_a28 : Option Addr) (x_n29 x_c30 : Nat), Cells w20 p18 0 [.bool x23, .bool x24, .int .i64 x25, .int .i64 x26, .int .i64 x27, .slice x_a28 x_n29 x_c30] ∧ Does Try.prog 17 #[.agg #[.bool x23, .bool x24, .int .i64 x25, .int .i64 x26, .int .i64 x27, .slice x_a28 x_n29 x_c30], .agg #[.bool false, .bool false, .int .i64 0, .int .i64 0, .int .i64 0, .slice none 0 0]] w20 (fun v w32 => ∃ (x33 : Bool), v = .bool x33 ∧ if x33 = true then
      Does Try.prog 8 #[] w32 (fun v w35 => ∃ (x36 : Bool), v = .bool x36 ∧ k (.bool x36) w35)
    else
      k (.bool false) w32)
  else
    ∃ (x37 x38 : Bool) (x39 x40 x41 : Int) (x_a42 : Option Addr) (x_n43 x_c44 : Nat), Cells w20 p18 0 [.bool x37, .bool x38, .int .i64 x39, .int .i64 x40, .int .i64 x41, .slice x_a42 x_n43 x_c44] ∧ Does Try.prog 9 #[.agg #[.bool x37, .bool x38, .int .i64 x39, .int .i64 x40, .int .i64 x41, .slice x_a42 x_n43 x_c44]] w20 (fun v w46 => ∃ (r_a47 : Option Addr) (r_n48 r_c49 : Nat) (r50 : Int), v = .tuple #[.slice r_a47 r_n48 r_c49, .int .i64 r50] ∧ ∃ (x51 x52 : Bool) (x53 x54 x55 : Int) (x_a56 : Option Addr) (x_n57 x_c58 : Nat), Cells w46 p18 0 [.bool x51, .bool x52, .int .i64 x53, .int .i64 x54, .int .i64 x55, .slice x_a56 x_n57 x_c58] ∧ Does Try.prog 13 #[.agg #[.bool x51, .bool x52, .int .i64 x53, .int .i64 x54, .int .i64 x55, .slice x_a56 x_n57 x_c58]] w46 (fun v w60 => ∃ (x61 : Bool), v = .bool x61 ∧ if x61 = true then
      if r50 = 0 then
        ∃ (s64 : ByteArray), (Conv.bytesToString (.slice r_a47 r_n48 r_c49)).run Try.prog w60 = .ok (.string s64) w60 ∧ ∃ (s66 : ByteArray), (Conv.bytesToString (.slice b_a1 b_n2 b_c3)).run Try.prog w60 = .ok (.string s66) w60 ∧ if (s64.toList == s66.toList) = true then
          Does Try.prog 8 #[] w60 (fun v w69 => ∃ (x70 : Bool), v = .bool x70 ∧ k (.bool x70) w69)
        else
          k (.bool false) w60
      else
        k (.bool false) w60
    else
      k (.bool false) w60)))))
set_option maxRecDepth 100000 in
set_option maxHeartbeats 2000000 in
theorem w7 (b_a1 : Option Addr) (b_n2 : Nat) (b_c3 : Nat) (w4 : World) (k : Value → World → Prop) (h : F7 b_a1 b_n2 b_c3 w4 k) : Does Try.prog 7 #[.slice b_a1 b_n2 b_c3] w4 k := by
  refine enter 45 Try.func7 rfl rfl rfl ?_
  intro ρ hρ
  have e0 := hρ 0 _ rfl
  unfold F7 at h
  refine WC_seq ?_
  refine WC_region ?_
  refine WL_val gd0 ((o_assign (v := .bool false) rfl) _) rfl ?_
  refine WL_nil ?_
  refine nrm ?_
  refine WC_seq ?_
  refine WC_seq ?_
  refine WC_region ?_
  refine WL_val gd0 ((o_move (v := .slice b_a1 b_n2 b_c3) (by exact e0)) _) rfl ?_
  refine WL_val gd0 ((o_len Try.underlying22 rfl) _) rfl ?_
  refine WL_val gd0 ((o_gtr rfl rfl) _) rfl ?_
  refine WL_nil ?_
  refine nrm ?_
  refine WC_cond (t := (decide (1100 < (b_n2 : Int)))) rfl (fun hb5 => ?_) (fun hb5 => ?_)
  · rw [if_pos (of_decide_eq_true hb5)] at h
    refine WC_seq ?_
    refine WC_region ?_
    refine WL_call gd0 (o_call Try.call8 argNil _) rfl (h.mono ?_)
    rintro _ w6 ⟨t7, rfl, h⟩
    refine WL_val gd0 ((o_assign (v := .bool t7) rfl) _) rfl ?_
    refine WL_nil ?_
    refine nrm ?_
    refine WC_ret ?_
    refine rtT ?_
    refine rtE ?_
    exact gv1 rfl rfl h
  · rw [if_neg (of_decide_eq_false hb5)] at h
    refine WC_skip ?_
    refine nrm ?_
    refine WC_seq ?_
    refine WC_region ?_
    refine WL_val gd0 ((o_move (v := .slice b_a1 b_n2 b_c3) (by exact e0)) _) rfl ?_
    refine WL_call gd0 (o_call Try.call15 (argCons rfl argNil) _) rfl (h.mono ?_)
    rintro _ w8 ⟨r9, r10, r11, r12, r13, r_a14, r_n15, r_c16, r17, rfl, h⟩
    refine WL_val gd0 ((o_move (v := .tuple #[.agg #[.bool r9, .bool r10, .int .i64 r11, .int .i64 r12, .int .i64 r13, .slice r_a14 r_n15 r_c16], .int .i64 r17]) rfl) _) rfl ?_
    refine WL_val gd0 ((o_extract (vs := [.agg #[.bool r9, .bool r10, .int .i64 r11, .int .i64 r12, .int .i64 r13, .slice r_a14 r_n15 r_c16], .int .i64 r17]) (r := .agg #[.bool r9, .bool r10, .int .i64 r11, .int .i64 r12, .int .i64 r13, .slice r_a14 r_n15 r_c16]) rfl rfl) _) rfl ?_
    refine WL_val gd0 ((o_extract (vs := [.agg #[.bool r9, .bool r10, .int .i64 r11, .int .i64 r12, .int .i64 r13, .slice r_a14 r_n15 r_c16], .int .i64 r17]) (r := .int .i64 r17) rfl rfl) _) rfl ?_
    have h := New.out h
    refine WL_val gd0 (o_alloc (z := .agg #[.bool false, .bool false, .int .i64 0, .int .i64 0, .int .i64 0, .slice none 0 0]) (cs := [.bool false, .bool false, .int .i64 0, .int .i64 0, .int .i64 0, .slice none 0 0]) Try.zeroValue24 rfl) rfl ?_
    generalize hp18 : fresh w8 = p18 at h ⊢
    generalize hw19 : push w8 24 [.bool false, .bool false, .int .i64 0, .int .i64 0, .int .i64 0, .slice none 0 0] = w19 at h ⊢
    try dsimp only at h
    obtain ⟨c21, h⟩ := h
    refine WL_act gd0 (o_storeAgg (vs := [.bool r9, .bool r10, .int .i64 r11, .int .i64 r12, .int .i64 r13, .slice r_a14 r_n15 r_c16]) Try.sizeOf24 rfl rfl rfl c21) ?_
    generalize hw20 : setAll w19 p18 0 [.bool r9, .bool r10, .int .i64 r11, .int .i64 r12, .int .i64 r13, .slice r_a14 r_n15 r_c16] = w20 at h ⊢
    try dsimp only at h
    refine WL_val gd0 ((o_assign (v := .int .i64 r17) rfl) _) rfl ?_
    refine WL_nil ?_
    refine nrm ?_
    refine WC_seq ?_
    refine WC_seq ?_
    refine WC_region ?_
    refine WL_val gd0 ((o_move (v := .int .i64 r17) rfl) _) rfl ?_
    refine WL_val gd0 ((o_neq rfl rfl) _) rfl ?_
    refine WL_nil ?_
    refine nrm ?_
    refine WC_cond (t := (decide (r17 ≠ 0))) rfl (fun hb22 => ?_) (fun hb22 => ?_)
    · rw [if_pos (of_decide_eq_true hb22)] at h
      refine WC_seq ?_
      refine WC_region ?_
      obtain ⟨x23, x24, x25, x26, x27, x_a28, x_n29, x_c30, hc31, h⟩ := h
      refine WL_val gd0 (o_loadAgg (vs := [.bool x23, .bool x24, .int .i64 x25, .int .i64 x26, .int .i64 x27, .slice x_a28 x_n29 x_c30]) Try.isAgg24 Try.sizeOf24 rfl hc31) rfl ?_
      refine WL_val gd0 ((o_build (ps := []) (v := .agg #[.bool false, .bool false, .int .i64 0, .int .i64 0, .int .i64 0, .slice none 0 0]) partNil (fun w => by kernel_rfl)) _) rfl ?_
      refine WL_call gd0 (o_call Try.call17 (argCons rfl (argCons rfl argNil)) _) rfl (h.mono ?_)
      rintro _ w32 ⟨x33, rfl, h⟩
      refine WL_val gd0 ((o_move (v := .bool x33) rfl) _) rfl ?_
      refine bsplit x33 (fun hb34 => ?_) (fun hb34 => ?_)
      · rw [if_pos hb34] at h
        refine WL_call (gdY (b := x33) 21 rfl rfl hb34) (o_call Try.call8 argNil _) rfl (h.mono ?_)
        rintro _ w35 ⟨x36, rfl, h⟩
        refine WL_val gd0 ((o_pickT (v := .bool x36) rfl hb34 rfl) _) rfl ?_
        refine WL_val gd0 ((o_assign (v := .bool x36) rfl) _) rfl ?_
        refine WL_nil ?_
        refine nrm ?_
        refine WC_ret ?_
        refine rtT ?_
        refine rtE ?_
        exact gv1 rfl rfl h
      · rw [if_neg (neT hb34)] at h
        refine WL_skip (gdN (b := x33) 21 rfl rfl hb34) rfl ?_
        refine WL_val gd0 ((o_pickF (v := .bool false) rfl hb34 rfl) _) rfl ?_
        refine WL_val gd0 ((o_assign (v := .bool false) rfl) _) rfl ?_
        refine WL_nil ?_
        refine nrm ?_
        refine WC_ret ?_
        refine rtT ?_
        refine rtE ?_
        exact gv1 rfl rfl h
    · rw [if_neg (of_decide_eq_false hb22)] at h
      refine WC_skip ?_
      refine nrm ?_
      refine WC_seq ?_
      refine WC_region ?_
      obtain ⟨x37, x38, x39, x40, x41, x_a42, x_n43, x_c44, hc45, h⟩ := h
      refine WL_val gd0 (o_loadAgg (vs := [.bool x37, .bool x38, .int .i64 x39, .int .i64 x40, .int .i64 x41, .slice x_a42 x_n43 x_c44]) Try.isAgg24 Try.sizeOf24 rfl hc45) rfl ?_
      refine WL_call gd0 (o_call Try.call9 (argCons rfl argNil) _) rfl (h.mono ?_)
      rintro _ w46 ⟨r_a47, r_n48, r_c49, r50, rfl, h⟩
      refine WL_val gd0 ((o_move (v := .tuple #[.slice r_a47 r_n48 r_c49, .int .i64 r50]) rfl) _) rfl ?_
      refine WL_val gd0 ((o_extract (vs := [.slice r_a47 r_n48 r_c49, .int .i64 r50]) (r := .slice r_a47 r_n48 r_c49) rfl rfl) _) rfl ?_
      refine WL_val gd0 ((o_extract (vs := [.slice r_a47 r_n48 r_c49, .int .i64 r50]) (r := .int .i64 r50) rfl rfl) _) rfl ?_
      refine WL_val gd0 ((o_assign (v := .slice r_a47 r_n48 r_c49) rfl) _) rfl ?_
      refine WL_val gd0 ((o_assign (v := .int .i64 r50) rfl) _) rfl ?_
      refine WL_nil ?_
      refine nrm ?_
      refine WC_seq ?_
      refine WC_region ?_
      obtain ⟨x51, x52, x53, x54, x55, x_a56, x_n57, x_c58, hc59, h⟩ := h
      refine WL_val gd0 (o_loadAgg (vs := [.bool x51, .bool x52, .int .i64 x53, .int .i64 x54, .int .i64 x55, .slice x_a56 x_n57 x_c58]) Try.isAgg24 Try.sizeOf24 rfl hc59) rfl ?_
      refine WL_call gd0 (o_call Try.call13 (argCons rfl argNil) _) rfl (h.mono ?_)
      rintro _ w60 ⟨x61, rfl, h⟩
      refine WL_val gd0 ((o_move (v := .bool x61) rfl) _) rfl ?_
      refine bsplit x61 (fun hb62 => ?_) (fun hb62 => ?_)
      · rw [if_pos hb62] at h
        refine WL_val (gdY (b := x61) 31 rfl rfl hb62) ((o_move (v := .int .i64 r50) rfl) _) rfl ?_
        refine WL_val (gdY (b := x61) 31 rfl rfl hb62) ((o_eql rfl rfl) _) rfl ?_
        refine WL_val gd0 ((o_pickT (v := .bool (decide (r50 = 0))) rfl hb62 rfl) _) rfl ?_
        refine WL_val gd0 ((o_move (v := .bool (decide (r50 = 0))) rfl) _) rfl ?_
        refine bsplit (decide (r50 = 0)) (fun hb63 => ?_) (fun hb63 => ?_)
        · rw [if_pos (of_decide_eq_true hb63)] at h
          refine WL_val (gdY (b := (decide (r50 = 0))) 35 rfl rfl hb63) ((o_move (v := .slice r_a47 r_n48 r_c49) rfl) _) rfl ?_
          obtain ⟨s64, r65, h⟩ := h
          refine WL_val (gdY (b := (decide (r50 = 0))) 35 rfl rfl hb63) (o_toStr Try.underlying22 Try.underlying5 Try.underlying9 rfl r65) rfl ?_
          refine WL_val (gdY (b := (decide (r50 = 0))) 35 rfl rfl hb63) ((o_move (v := .slice b_a1 b_n2 b_c3) (by exact e0)) _) rfl ?_
          obtain ⟨s66, r67, h⟩ := h
          refine WL_val (gdY (b := (decide (r50 = 0))) 35 rfl rfl hb63) (o_toStr Try.underlying22 Try.underlying5 Try.underlying9 rfl r67) rfl ?_
          refine WL_val (gdY (b := (decide (r50 = 0))) 35 rfl rfl hb63) ((o_eqlStr rfl rfl) _) rfl ?_
          refine WL_val gd0 ((o_pickT (v := .bool (s64.toList == s66.toList)) rfl hb63 rfl) _) rfl ?_
          refine WL_val gd0 ((o_move (v := .bool (s64.toList == s66.toList)) rfl) _) rfl ?_
          refine bsplit (s64.toList == s66.toList) (fun hb68 => ?_) (fun hb68 => ?_)
          · rw [if_pos hb68] at h
            refine WL_call (gdY (b := (s64.toList == s66.toList)) 42 rfl rfl hb68) (o_call Try.call8 argNil _) rfl (h.mono ?_)
            rintro _ w69 ⟨x70, rfl, h⟩
            refine WL_val gd0 ((o_pickT (v := .bool x70) rfl hb68 rfl) _) rfl ?_
            refine WL_val gd0 ((o_assign (v := .bool x70) rfl) _) rfl ?_
            refine WL_nil ?_
            refine nrm ?_
            refine WC_ret ?_
            refine rtE ?_
            exact gv1 rfl rfl h
          · rw [if_neg (neT hb68)] at h
            refine WL_skip (gdN (b := (s64.toList == s66.toList)) 42 rfl rfl hb68) rfl ?_
            refine WL_val gd0 ((o_pickF (v := .bool false) rfl hb68 rfl) _) rfl ?_
            refine WL_val gd0 ((o_assign (v := .bool false) rfl) _) rfl ?_
            refine WL_nil ?_
            refine nrm ?_
            refine WC_ret ?_
            refine rtE ?_
            exact gv1 rfl rfl h
        · rw [if_neg (of_decide_eq_false hb63)] at h
          refine WL_skip (gdN (b := (decide (r50 = 0))) 35 rfl rfl hb63) rfl ?_
          refine WL_skip (gdN (b := (decide (r50 = 0))) 35 rfl rfl hb63) rfl ?_
          refine WL_skip (gdN (b := (decide (r50 = 0))) 35 rfl rfl hb63) rfl ?_
          refine WL_skip (gdN (b := (decide (r50 = 0))) 35 rfl rfl hb63) rfl ?_
          refine WL_skip (gdN (b := (decide (r50 = 0))) 35 rfl rfl hb63) rfl ?_
          refine WL_val gd0 ((o_pickF (v := .bool false) rfl hb63 rfl) _) rfl ?_
          refine WL_val gd0 ((o_move (v := .bool false) rfl) _) rfl ?_
          refine WL_skip (gdN (b := false) 42 rfl rfl rfl) rfl ?_
          refine WL_val gd0 ((o_pickF (v := .bool false) rfl rfl rfl) _) rfl ?_
          refine WL_val gd0 ((o_assign (v := .bool false) rfl) _) rfl ?_
          refine WL_nil ?_
          refine nrm ?_
          refine WC_ret ?_
          refine rtE ?_
          exact gv1 rfl rfl h
      · rw [if_neg (neT hb62)] at h
        refine WL_skip (gdN (b := x61) 31 rfl rfl hb62) rfl ?_
        refine WL_skip (gdN (b := x61) 31 rfl rfl hb62) rfl ?_
        refine WL_val gd0 ((o_pickF (v := .bool false) rfl hb62 rfl) _) rfl ?_
        refine WL_val gd0 ((o_move (v := .bool false) rfl) _) rfl ?_
        refine WL_skip (gdN (b := false) 35 rfl rfl rfl) rfl ?_
        refine WL_skip (gdN (b := false) 35 rfl rfl rfl) rfl ?_
        refine WL_skip (gdN (b := false) 35 rfl rfl rfl) rfl ?_
        refine WL_skip (gdN (b := false) 35 rfl rfl rfl) rfl ?_
        refine WL_skip (gdN (b := false) 35 rfl rfl rfl) rfl ?_
        refine WL_val gd0 ((o_pickF (v := .bool false) rfl rfl rfl) _) rfl ?_
        refine WL_val gd0 ((o_move (v := .bool false) rfl) _) rfl ?_
        refine WL_skip (gdN (b := false) 42 rfl rfl rfl) rfl ?_
        refine WL_val gd0 ((o_pickF (v := .bool false) rfl rfl rfl) _) rfl ?_
        refine WL_val gd0 ((o_assign (v := .bool false) rfl) _) rfl ?_
        refine WL_nil ?_
        refine nrm ?_
        refine WC_ret ?_
        refine rtE ?_
        exact gv1 rfl rfl h

/-- spacecraft spacecraftlaw14.alive -/
def F8 (w1 : World) (k : Value → World → Prop) : Prop :=
  New w1 5 [.int .u8 170] (fun p2 w3 => New w3 24 [.bool false, .bool false, .int .i64 0, .int .i64 0, .int .i64 0, .slice none 0 0] (fun p4 w5 => PutAll w5 p4 [.bool false, .bool false, .int .i64 5, .int .i64 1, .int .i64 3, .slice (some p2) 1 1] (fun w6 => ∃ (x8 x9 : Bool) (x10 x11 x12 : Int) (x_a13 : Option Addr) (x_n14 x_c15 : Nat), Cells w6 p4 0 [.bool x8, .bool x9, .int .i64 x10, .int .i64 x11, .int .i64 x12, .slice x_a13 x_n14 x_c15] ∧ Does Try.prog 9 #[.agg #[.bool x8, .bool x9, .int .i64 x10, .int .i64 x11, .int .i64 x12, .slice x_a13 x_n14 x_c15]] w6 (fun v w17 => ∃ (r_a18 : Option Addr) (r_n19 r_c20 : Nat) (r21 : Int), v = .tuple #[.slice r_a18 r_n19 r_c20, .int .i64 r21] ∧ Does Try.prog 18 #[.int .i64 5, .int .i64 1] w17 (fun v w22 => ∃ (x23 x24 : Bool) (x25 x26 x27 : Int) (x_a28 : Option Addr) (x_n29 x_c30 : Nat), v = .agg #[.bool x23, .bool x24, .int .i64 x25, .int .i64 x26, .int .i64 x27, .slice x_a28 x_n29 x_c30] ∧ Does Try.prog 9 #[.agg #[.bool x23, .bool x24, .int .i64 x25, .int .i64 x26, .int .i64 x27, .slice x_a28 x_n29 x_c30]] w22 (fun v w31 => ∃ (r_a32 : Option Addr) (r_n33 r_c34 : Nat) (r35 : Int), v = .tuple #[.slice r_a32 r_n33 r_c34, .int .i64 r35] ∧ Does Try.prog 15 #[.slice r_a18 r_n19 r_c20] w31 (fun v w36 => ∃ (r37 r38 : Bool) (r39 r40 r41 : Int) (r_a42 : Option Addr) (r_n43 r_c44 : Nat) (r45 : Int), v = .tuple #[.agg #[.bool r37, .bool r38, .int .i64 r39, .int .i64 r40, .int .i64 r41, .slice r_a42 r_n43 r_c44], .int .i64 r45] ∧ New w36 24 [.bool false, .bool false, .int .i64 0, .int .i64 0, .int .i64 0, .slice none 0 0] (fun p46 w47 => PutAll w47 p46 [.bool r37, .bool r38, .int .i64 r39, .int .i64 r40, .int .i64 r41, .slice r_a42 r_n43 r_c44] (fun w48 => Does Try.prog 19 #[.int .i64 5, .int .i64 1, .int .i64 9] w48 (fun v w50 => ∃ (x51 x52 : Bool) (x53 x54 x55 : Int) (x_a56 : Option Addr) (x_n57 x_c58 : Nat), v = .agg #[.bool x51, .bool x52, .int .i64 x53, .int .i64 x54, .int .i64 x55, .slice x_a56 x_n57 x_c58] ∧ Does Try.prog 11 #[.agg #[.bool x51, .bool x52, .int .i64 x53, .int .i64 x54, .int .i64 x55, .slice x_a56 x_n57 x_c58]] w50 (fun v w59 => ∃ (r60 r61 : Int) (r62 : Bool), v = .tuple #[.int .i64 r60, .int .i64 r61, .bool r62] ∧ if r21 = 0 then
  if r35 = 0 then
    if r45 = 0 then
      ∃ (s66 : ByteArray), (Conv.bytesToString (.slice r_a18 r_n19 r_c20)).run Try.prog w59.drew = .ok (.string s66) w59.drew ∧ New w59.drew 5 [.int .u8 0, .int .u8 5, .int .u8 4, .int .u8 7, .int .u8 3, .int .u8 170] (fun p68 w69 => (Conv.bytesToString (.slice r_a18 r_n19 r_c20)).run Try.prog w69 = .ok (.string s66) w69 ∧ Does Try.prog 23 #[.slice (some p68) 6 6] w69 (fun v w71 => ∃ (x_a72 : Option Addr) (x_n73 x_c74 : Nat), v = .slice x_a72 x_n73 x_c74 ∧ (Conv.bytesToString (.slice r_a18 r_n19 r_c20)).run Try.prog w71 = .ok (.string s66) w71 ∧ ∃ (s76 : ByteArray), (Conv.bytesToString (.slice x_a72 x_n73 x_c74)).run Try.prog w71 = .ok (.string s76) w71 ∧ if (s66.toList == s76.toList) = true then
        ∃ (s79 : ByteArray), (Conv.bytesToString (.slice r_a32 r_n33 r_c34)).run Try.prog w71 = .ok (.string s79) w71 ∧ New w71 5 [.int .u8 48, .int .u8 5, .int .u8 4, .int .u8 7, .int .u8 0, .int .u8 0] (fun p81 w82 => (Conv.bytesToString (.slice r_a32 r_n33 r_c34)).run Try.prog w82 = .ok (.string s79) w82 ∧ Does Try.prog 23 #[.slice (some p81) 6 6] w82 (fun v w84 => ∃ (x_a85 : Option Addr) (x_n86 x_c87 : Nat), v = .slice x_a85 x_n86 x_c87 ∧ (Conv.bytesToString (.slice r_a32 r_n33 r_c34)).run Try.prog w84 = .ok (.string s79) w84 ∧ ∃ (s89 : ByteArray), (Conv.bytesToString (.slice x_a85 x_n86 x_c87)).run Try.prog w84 = .ok (.string s89) w84 ∧ if (s79.toList == s89.toList) = true then
          ∃ (x92 x93 : Bool) (x94 x95 x96 : Int) (x_a97 : Option Addr) (x_n98 x_c99 : Nat), Cells w84 p46 0 [.bool x92, .bool x93, .int .i64 x94, .int .i64 x95, .int .i64 x96, .slice x_a97 x_n98 x_c99] ∧ ∃ (x101 x102 : Bool) (x103 x104 x105 : Int) (x_a106 : Option Addr) (x_n107 x_c108 : Nat), Cells w84 p4 0 [.bool x101, .bool x102, .int .i64 x103, .int .i64 x104, .int .i64 x105, .slice x_a106 x_n107 x_c108] ∧ Does Try.prog 17 #[.agg #[.bool x92, .bool x93, .int .i64 x94, .int .i64 x95, .int .i64 x96, .slice x_a97 x_n98 x_c99], .agg #[.bool x101, .bool x102, .int .i64 x103, .int .i64 x104, .int .i64 x105, .slice x_a106 x_n107 x_c108]] w84 (fun v w110 => ∃ (x111 : Bool), v = .bool x111 ∧ if x111 = true then
            if r60 = 1 then
              if r61 = 9 then
                k (.bool r62) w110
              else
                k (.bool false) w110
            else
              k (.bool false) w110
          else
            k (.bool false) w110)
        else
          k (.bool false) w84))
      else
        k (.bool false) w71))
    else
      k (.bool false) w59.drew
  else
    k (.bool false) w59.drew
else
  k (.bool false) w59.drew)))))))))))
set_option maxRecDepth 100000 in
set_option maxHeartbeats 2000000 in
theorem w8 (w1 : World) (k : Value → World → Prop) (h : F8 w1 k) : Does Try.prog 8 #[] w1 k := by
  refine enter 76 Try.func8 rfl rfl rfl ?_
  intro ρ hρ
  unfold F8 at h
  refine WC_seq ?_
  refine WC_region ?_
  refine WL_val gd0 ((o_assign (v := .bool false) rfl) _) rfl ?_
  refine WL_nil ?_
  refine nrm ?_
  refine WC_seq ?_
  refine WC_region ?_
  have h := New.out h
  refine WL_val gd0 (o_buildSlice (e := 5) (ps := [(0, .int .u8 170)]) (cs := [.int .u8 170]) (partCons rfl partNil) (fun w => by kernel_rfl)) rfl ?_
  generalize hp2 : fresh w1 = p2 at h ⊢
  generalize hw3 : push w1 5 [.int .u8 170] = w3 at h ⊢
  try dsimp only at h
  refine WL_val gd0 ((o_build (ps := [(2, .int .i64 5), (3, .int .i64 1), (4, .int .i64 3), (5, .slice (some p2) 1 1)]) (v := .agg #[.bool false, .bool false, .int .i64 5, .int .i64 1, .int .i64 3, .slice (some p2) 1 1]) (partCons rfl (partCons rfl (partCons rfl (partCons rfl partNil)))) (fun w => by kernel_rfl)) _) rfl ?_
  have h := New.out h
  refine WL_val gd0 (o_alloc (z := .agg #[.bool false, .bool false, .int .i64 0, .int .i64 0, .int .i64 0, .slice none 0 0]) (cs := [.bool false, .bool false, .int .i64 0, .int .i64 0, .int .i64 0, .slice none 0 0]) Try.zeroValue24 rfl) rfl ?_
  generalize hp4 : fresh w3 = p4 at h ⊢
  generalize hw5 : push w3 24 [.bool false, .bool false, .int .i64 0, .int .i64 0, .int .i64 0, .slice none 0 0] = w5 at h ⊢
  try dsimp only at h
  obtain ⟨c7, h⟩ := h
  refine WL_act gd0 (o_storeAgg (vs := [.bool false, .bool false, .int .i64 5, .int .i64 1, .int .i64 3, .slice (some p2) 1 1]) Try.sizeOf24 rfl rfl rfl c7) ?_
  generalize hw6 : setAll w5 p4 0 [.bool false, .bool false, .int .i64 5, .int .i64 1, .int .i64 3, .slice (some p2) 1 1] = w6 at h ⊢
  try dsimp only at h
  refine WL_nil ?_
  refine nrm ?_
  refine WC_seq ?_
  refine WC_region ?_
  obtain ⟨x8, x9, x10, x11, x12, x_a13, x_n14, x_c15, hc16, h⟩ := h
  refine WL_val gd0 (o_loadAgg (vs := [.bool x8, .bool x9, .int .i64 x10, .int .i64 x11, .int .i64 x12, .slice x_a13 x_n14 x_c15]) Try.isAgg24 Try.sizeOf24 rfl hc16) rfl ?_
  refine WL_call gd0 (o_call Try.call9 (argCons rfl argNil) _) rfl (h.mono ?_)
  rintro _ w17 ⟨r_a18, r_n19, r_c20, r21, rfl, h⟩
  refine WL_val gd0 ((o_move (v := .tuple #[.slice r_a18 r_n19 r_c20, .int .i64 r21]) rfl) _) rfl ?_
  refine WL_val gd0 ((o_extract (vs := [.slice r_a18 r_n19 r_c20, .int .i64 r21]) (r := .slice r_a18 r_n19 r_c20) rfl rfl) _) rfl ?_
  refine WL_val gd0 ((o_extract (vs := [.slice r_a18 r_n19 r_c20, .int .i64 r21]) (r := .int .i64 r21) rfl rfl) _) rfl ?_
  refine WL_val gd0 ((o_assign (v := .slice r_a18 r_n19 r_c20) rfl) _) rfl ?_
  refine WL_val gd0 ((o_assign (v := .int .i64 r21) rfl) _) rfl ?_
  refine WL_nil ?_
  refine nrm ?_
  refine WC_seq ?_
  refine WC_region ?_
  refine WL_call gd0 (o_call Try.call18 (argCons rfl (argCons rfl argNil)) _) rfl (h.mono ?_)
  rintro _ w22 ⟨x23, x24, x25, x26, x27, x_a28, x_n29, x_c30, rfl, h⟩
  refine WL_call gd0 (o_call Try.call9 (argCons rfl argNil) _) rfl (h.mono ?_)
  rintro _ w31 ⟨r_a32, r_n33, r_c34, r35, rfl, h⟩
  refine WL_val gd0 ((o_move (v := .tuple #[.slice r_a32 r_n33 r_c34, .int .i64 r35]) rfl) _) rfl ?_
  refine WL_val gd0 ((o_extract (vs := [.slice r_a32 r_n33 r_c34, .int .i64 r35]) (r := .slice r_a32 r_n33 r_c34) rfl rfl) _) rfl ?_
  refine WL_val gd0 ((o_extract (vs := [.slice r_a32 r_n33 r_c34, .int .i64 r35]) (r := .int .i64 r35) rfl rfl) _) rfl ?_
  refine WL_val gd0 ((o_assign (v := .slice r_a32 r_n33 r_c34) rfl) _) rfl ?_
  refine WL_val gd0 ((o_assign (v := .int .i64 r35) rfl) _) rfl ?_
  refine WL_nil ?_
  refine nrm ?_
  refine WC_seq ?_
  refine WC_region ?_
  refine WL_val gd0 ((o_move (v := .slice r_a18 r_n19 r_c20) rfl) _) rfl ?_
  refine WL_call gd0 (o_call Try.call15 (argCons rfl argNil) _) rfl (h.mono ?_)
  rintro _ w36 ⟨r37, r38, r39, r40, r41, r_a42, r_n43, r_c44, r45, rfl, h⟩
  refine WL_val gd0 ((o_move (v := .tuple #[.agg #[.bool r37, .bool r38, .int .i64 r39, .int .i64 r40, .int .i64 r41, .slice r_a42 r_n43 r_c44], .int .i64 r45]) rfl) _) rfl ?_
  refine WL_val gd0 ((o_extract (vs := [.agg #[.bool r37, .bool r38, .int .i64 r39, .int .i64 r40, .int .i64 r41, .slice r_a42 r_n43 r_c44], .int .i64 r45]) (r := .agg #[.bool r37, .bool r38, .int .i64 r39, .int .i64 r40, .int .i64 r41, .slice r_a42 r_n43 r_c44]) rfl rfl) _) rfl ?_
  refine WL_val gd0 ((o_extract (vs := [.agg #[.bool r37, .bool r38, .int .i64 r39, .int .i64 r40, .int .i64 r41, .slice r_a42 r_n43 r_c44], .int .i64 r45]) (r := .int .i64 r45) rfl rfl) _) rfl ?_
  have h := New.out h
  refine WL_val gd0 (o_alloc (z := .agg #[.bool false, .bool false, .int .i64 0, .int .i64 0, .int .i64 0, .slice none 0 0]) (cs := [.bool false, .bool false, .int .i64 0, .int .i64 0, .int .i64 0, .slice none 0 0]) Try.zeroValue24 rfl) rfl ?_
  generalize hp46 : fresh w36 = p46 at h ⊢
  generalize hw47 : push w36 24 [.bool false, .bool false, .int .i64 0, .int .i64 0, .int .i64 0, .slice none 0 0] = w47 at h ⊢
  try dsimp only at h
  obtain ⟨c49, h⟩ := h
  refine WL_act gd0 (o_storeAgg (vs := [.bool r37, .bool r38, .int .i64 r39, .int .i64 r40, .int .i64 r41, .slice r_a42 r_n43 r_c44]) Try.sizeOf24 rfl rfl rfl c49) ?_
  generalize hw48 : setAll w47 p46 0 [.bool r37, .bool r38, .int .i64 r39, .int .i64 r40, .int .i64 r41, .slice r_a42 r_n43 r_c44] = w48 at h ⊢
  try dsimp only at h
  refine WL_val gd0 ((o_assign (v := .int .i64 r45) rfl) _) rfl ?_
  refine WL_nil ?_
  refine nrm ?_
  refine WC_seq ?_
  refine WC_region ?_
  refine WL_call gd0 (o_call Try.call19 (argCons rfl (argCons rfl (argCons rfl argNil))) _) rfl (h.mono ?_)
  rintro _ w50 ⟨x51, x52, x53, x54, x55, x_a56, x_n57, x_c58, rfl, h⟩
  refine WL_call gd0 (o_call Try.call11 (argCons rfl argNil) _) rfl (h.mono ?_)
  rintro _ w59 ⟨r60, r61, r62, rfl, h⟩
  refine WL_val gd0 ((o_move (v := .tuple #[.int .i64 r60, .int .i64 r61, .bool r62]) rfl) _) rfl ?_
  refine WL_val gd0 ((o_extract (vs := [.int .i64 r60, .int .i64 r61, .bool r62]) (r := .int .i64 r60) rfl rfl) _) rfl ?_
  refine WL_val gd0 ((o_extract (vs := [.int .i64 r60, .int .i64 r61, .bool r62]) (r := .int .i64 r61) rfl rfl) _) rfl ?_
  refine WL_val gd0 ((o_extract (vs := [.int .i64 r60, .int .i64 r61, .bool r62]) (r := .bool r62) rfl rfl) _) rfl ?_
  refine WL_val gd0 ((o_assign (v := .int .i64 r60) rfl) _) rfl ?_
  refine WL_val gd0 ((o_assign (v := .int .i64 r61) rfl) _) rfl ?_
  refine WL_val gd0 ((o_assign (v := .bool r62) rfl) _) rfl ?_
  refine WL_nil ?_
  refine nrm ?_
  refine WC_seq ?_
  refine WC_draws [13, 14, 21, 22, 29] (.look 0 (.look 1 (.look 2 (.look 3 (.look 4 (.look 5 (.look 6 (.look 7 (.look 8 (.look 9 (.look 10 (.look 11 (.look 12 (.act 13 (.act 14 (.look 15 (.look 16 (.look 17 (.look 18 (.look 19 (.look 20 (.act 21 (.act 22 (.look 23 (.look 24 (.look 25 (.look 26 (.look 27 (.look 28 (.act 29 (.look 30 (.look 31 (.look 32 (.look 33 (.look 34 (.look 35 (.look 36 (.look 37 (.look 38 (.look 39 (.look 40 (.look 41 (.look 42 .nil))))))))))))))))))))))))))))))))))))))))))) Try.mixed (by kernel_rfl) ?_
  refine WQ_val rfl gd0 (o_move (v := .int .i64 r21) rfl) rfl ?_
  refine WQ_val rfl gd0 (o_eql rfl rfl) rfl ?_
  refine WQ_val rfl gd0 (o_move (v := .bool (decide (r21 = 0))) rfl) rfl ?_
  refine bsplit (decide (r21 = 0)) (fun hb63 => ?_) (fun hb63 => ?_)
  · rw [if_pos (of_decide_eq_true hb63)] at h
    refine WQ_val rfl (gdY (b := (decide (r21 = 0))) 36 rfl rfl hb63) (o_move (v := .int .i64 r35) rfl) rfl ?_
    refine WQ_val rfl (gdY (b := (decide (r21 = 0))) 36 rfl rfl hb63) (o_eql rfl rfl) rfl ?_
    refine WQ_val rfl gd0 (o_pickT (v := .bool (decide (r35 = 0))) rfl hb63 rfl) rfl ?_
    refine WQ_val rfl gd0 (o_move (v := .bool (decide (r35 = 0))) rfl) rfl ?_
    refine bsplit (decide (r35 = 0)) (fun hb64 => ?_) (fun hb64 => ?_)
    · rw [if_pos (of_decide_eq_true hb64)] at h
      refine WQ_val rfl (gdY (b := (decide (r35 = 0))) 40 rfl rfl hb64) (o_move (v := .int .i64 r45) rfl) rfl ?_
      refine WQ_val rfl (gdY (b := (decide (r35 = 0))) 40 rfl rfl hb64) (o_eql rfl rfl) rfl ?_
      refine WQ_val rfl gd0 (o_pickT (v := .bool (decide (r45 = 0))) rfl hb64 rfl) rfl ?_
      refine WQ_val rfl gd0 (o_move (v := .bool (decide (r45 = 0))) rfl) rfl ?_
      refine bsplit (decide (r45 = 0)) (fun hb65 => ?_) (fun hb65 => ?_)
      · rw [if_pos (of_decide_eq_true hb65)] at h
        refine WQ_val rfl (gdY (b := (decide (r45 = 0))) 44 rfl rfl hb65) (o_move (v := .slice r_a18 r_n19 r_c20) rfl) rfl ?_
        obtain ⟨s66, r67, h⟩ := h
        refine WQ_look (fun w => (Conv.bytesToString (.slice r_a18 r_n19 r_c20)).run Try.prog w = .ok (.string s66) w) rfl (gdY (b := (decide (r45 = 0))) 44 rfl rfl hb65) (fun w hc => (o_toStr Try.underlying22 Try.underlying5 Try.underlying9 rfl hc)) r67 rfl ?_
        have h := New.out h
        obtain ⟨hh70, h⟩ := h
        refine WQ_act rfl (gdY (b := (decide (r45 = 0))) 44 rfl rfl hb65) (o_buildSlice (e := 5) (ps := [(0, .int .u8 0), (1, .int .u8 5), (2, .int .u8 4), (3, .int .u8 7), (4, .int .u8 3), (5, .int .u8 170)]) (cs := [.int .u8 0, .int .u8 5, .int .u8 4, .int .u8 7, .int .u8 3, .int .u8 170]) (partCons rfl (partCons rfl (partCons rfl (partCons rfl (partCons rfl (partCons rfl partNil)))))) (fun w => by kernel_rfl)) rfl (by exact ⟨trivial, fun _ => hh70⟩) ?_
        generalize hp68 : fresh w59.drew = p68 at h ⊢
        generalize hw69 : push w59.drew 5 [.int .u8 0, .int .u8 5, .int .u8 4, .int .u8 7, .int .u8 3, .int .u8 170] = w69 at h ⊢
        try dsimp only at h
        refine WQ_call rfl (gdY (b := (decide (r45 = 0))) 44 rfl rfl hb65) (o_call Try.call23 (argCons rfl argNil) _) rfl (h.mono ?_)
        rintro _ w71 ⟨x_a72, x_n73, x_c74, rfl, hh75, h⟩
        refine ⟨⟨trivial, fun _ => hh75⟩, ?_⟩
        obtain ⟨s76, r77, h⟩ := h
        refine WQ_look (fun w => (Conv.bytesToString (.slice x_a72 x_n73 x_c74)).run Try.prog w = .ok (.string s76) w) rfl (gdY (b := (decide (r45 = 0))) 44 rfl rfl hb65) (fun w hc => (o_toStr Try.underlying22 Try.underlying5 Try.underlying9 rfl hc)) r77 rfl ?_
        refine WQ_val rfl (gdY (b := (decide (r45 = 0))) 44 rfl rfl hb65) (o_eqlStr rfl rfl) rfl ?_
        refine WQ_val rfl gd0 (o_pickT (v := .bool (s66.toList == s76.toList)) rfl hb65 rfl) rfl ?_
        refine WQ_val rfl gd0 (o_move (v := .bool (s66.toList == s76.toList)) rfl) rfl ?_
        refine bsplit (s66.toList == s76.toList) (fun hb78 => ?_) (fun hb78 => ?_)
        · rw [if_pos hb78] at h
          refine WQ_val rfl (gdY (b := (s66.toList == s76.toList)) 52 rfl rfl hb78) (o_move (v := .slice r_a32 r_n33 r_c34) rfl) rfl ?_
          obtain ⟨s79, r80, h⟩ := h
          refine WQ_look (fun w => (Conv.bytesToString (.slice r_a32 r_n33 r_c34)).run Try.prog w = .ok (.string s79) w) rfl (gdY (b := (s66.toList == s76.toList)) 52 rfl rfl hb78) (fun w hc => (o_toStr Try.underlying22 Try.underlying5 Try.underlying9 rfl hc)) r80 rfl ?_
          have h := New.out h
          obtain ⟨hh83, h⟩ := h
          refine WQ_act rfl (gdY (b := (s66.toList == s76.toList)) 52 rfl rfl hb78) (o_buildSlice (e := 5) (ps := [(0, .int .u8 48), (1, .int .u8 5), (2, .int .u8 4), (3, .int .u8 7), (4, .int .u8 0), (5, .int .u8 0)]) (cs := [.int .u8 48, .int .u8 5, .int .u8 4, .int .u8 7, .int .u8 0, .int .u8 0]) (partCons rfl (partCons rfl (partCons rfl (partCons rfl (partCons rfl (partCons rfl partNil)))))) (fun w => by kernel_rfl)) rfl (by exact ⟨⟨⟨trivial, depT (by kernel_rfl)⟩, depT (by kernel_rfl)⟩, fun _ => hh83⟩) ?_
          generalize hp81 : fresh w71 = p81 at h ⊢
          generalize hw82 : push w71 5 [.int .u8 48, .int .u8 5, .int .u8 4, .int .u8 7, .int .u8 0, .int .u8 0] = w82 at h ⊢
          try dsimp only at h
          refine WQ_call rfl (gdY (b := (s66.toList == s76.toList)) 52 rfl rfl hb78) (o_call Try.call23 (argCons rfl argNil) _) rfl (h.mono ?_)
          rintro _ w84 ⟨x_a85, x_n86, x_c87, rfl, hh88, h⟩
          refine ⟨⟨⟨⟨trivial, depT (by kernel_rfl)⟩, depT (by kernel_rfl)⟩, fun _ => hh88⟩, ?_⟩
          obtain ⟨s89, r90, h⟩ := h
          refine WQ_look (fun w => (Conv.bytesToString (.slice x_a85 x_n86 x_c87)).run Try.prog w = .ok (.string s89) w) rfl (gdY (b := (s66.toList == s76.toList)) 52 rfl rfl hb78) (fun w hc => (o_toStr Try.underlying22 Try.underlying5 Try.underlying9 rfl hc)) r90 rfl ?_
          refine WQ_val rfl (gdY (b := (s66.toList == s76.toList)) 52 rfl rfl hb78) (o_eqlStr rfl rfl) rfl ?_
          refine WQ_val rfl gd0 (o_pickT (v := .bool (s79.toList == s89.toList)) rfl hb78 rfl) rfl ?_
          refine WQ_val rfl gd0 (o_move (v := .bool (s79.toList == s89.toList)) rfl) rfl ?_
          refine bsplit (s79.toList == s89.toList) (fun hb91 => ?_) (fun hb91 => ?_)
          · rw [if_pos hb91] at h
            obtain ⟨x92, x93, x94, x95, x96, x_a97, x_n98, x_c99, hc100, h⟩ := h
            refine WQ_look (fun w => Cells w p46 0 [.bool x92, .bool x93, .int .i64 x94, .int .i64 x95, .int .i64 x96, .slice x_a97 x_n98 x_c99]) rfl (gdY (b := (s79.toList == s89.toList)) 60 rfl rfl hb91) (fun w hc => (o_loadAgg (vs := [.bool x92, .bool x93, .int .i64 x94, .int .i64 x95, .int .i64 x96, .slice x_a97 x_n98 x_c99]) Try.isAgg24 Try.sizeOf24 rfl hc)) hc100 rfl ?_
            obtain ⟨x101, x102, x103, x104, x105, x_a106, x_n107, x_c108, hc109, h⟩ := h
            refine WQ_look (fun w => Cells w p4 0 [.bool x101, .bool x102, .int .i64 x103, .int .i64 x104, .int .i64 x105, .slice x_a106 x_n107 x_c108]) rfl (gdY (b := (s79.toList == s89.toList)) 60 rfl rfl hb91) (fun w hc => (o_loadAgg (vs := [.bool x101, .bool x102, .int .i64 x103, .int .i64 x104, .int .i64 x105, .slice x_a106 x_n107 x_c108]) Try.isAgg24 Try.sizeOf24 rfl hc)) hc109 rfl ?_
            refine WQ_call rfl (gdY (b := (s79.toList == s89.toList)) 60 rfl rfl hb91) (o_call Try.call17 (argCons rfl (argCons rfl argNil)) _) rfl (h.mono ?_)
            rintro _ w110 ⟨x111, rfl, h⟩
            refine ⟨⟨⟨⟨⟨⟨⟨trivial, depT (by kernel_rfl)⟩, depT (by kernel_rfl)⟩, depT (by kernel_rfl)⟩, depT (by kernel_rfl)⟩, depT (by kernel_rfl)⟩, depT (by kernel_rfl)⟩, ?_⟩
            refine WQ_val rfl gd0 (o_pickT (v := .bool x111) rfl hb91 rfl) rfl ?_
            refine WQ_val rfl gd0 (o_move (v := .bool x111) rfl) rfl ?_
            refine bsplit x111 (fun hb112 => ?_) (fun hb112 => ?_)
            · rw [if_pos hb112] at h
              refine WQ_val rfl (gdY (b := x111) 65 rfl rfl hb112) (o_move (v := .int .i64 r60) rfl) rfl ?_
              refine WQ_val rfl (gdY (b := x111) 65 rfl rfl hb112) (o_eql rfl rfl) rfl ?_
              refine WQ_val rfl gd0 (o_pickT (v := .bool (decide (r60 = 1))) rfl hb112 rfl) rfl ?_
              refine WQ_val rfl gd0 (o_move (v := .bool (decide (r60 = 1))) rfl) rfl ?_
              refine bsplit (decide (r60 = 1)) (fun hb113 => ?_) (fun hb113 => ?_)
              · rw [if_pos (of_decide_eq_true hb113)] at h
                refine WQ_val rfl (gdY (b := (decide (r60 = 1))) 69 rfl rfl hb113) (o_move (v := .int .i64 r61) rfl) rfl ?_
                refine WQ_val rfl (gdY (b := (decide (r60 = 1))) 69 rfl rfl hb113) (o_eql rfl rfl) rfl ?_
                refine WQ_val rfl gd0 (o_pickT (v := .bool (decide (r61 = 9))) rfl hb113 rfl) rfl ?_
                refine WQ_val rfl gd0 (o_move (v := .bool (decide (r61 = 9))) rfl) rfl ?_
                refine bsplit (decide (r61 = 9)) (fun hb114 => ?_) (fun hb114 => ?_)
                · rw [if_pos (of_decide_eq_true hb114)] at h
                  refine WQ_val rfl (gdY (b := (decide (r61 = 9))) 73 rfl rfl hb114) (o_move (v := .bool r62) rfl) rfl ?_
                  refine WQ_val rfl gd0 (o_pickT (v := .bool r62) rfl hb114 rfl) rfl ?_
                  refine WQ_val rfl gd0 (o_assign (v := .bool r62) rfl) rfl ?_
                  refine WQ_nil ?_
                  refine nrm ?_
                  refine WC_ret ?_
                  refine rtE ?_
                  exact gv1 rfl rfl h
                · rw [if_neg (of_decide_eq_false hb114)] at h
                  refine WQ_skip rfl (gdN (b := (decide (r61 = 9))) 73 rfl rfl hb114) rfl ?_
                  refine WQ_val rfl gd0 (o_pickF (v := .bool false) rfl hb114 rfl) rfl ?_
                  refine WQ_val rfl gd0 (o_assign (v := .bool false) rfl) rfl ?_
                  refine WQ_nil ?_
                  refine nrm ?_
                  refine WC_ret ?_
                  refine rtE ?_
                  exact gv1 rfl rfl h
              · rw [if_neg (of_decide_eq_false hb113)] at h
                refine WQ_skip rfl (gdN (b := (decide (r60 = 1))) 69 rfl rfl hb113) rfl ?_
                refine WQ_skip rfl (gdN (b := (decide (r60 = 1))) 69 rfl rfl hb113) rfl ?_
                refine WQ_val rfl gd0 (o_pickF (v := .bool false) rfl hb113 rfl) rfl ?_
                refine WQ_val rfl gd0 (o_move (v := .bool false) rfl) rfl ?_
                refine WQ_skip rfl (gdN (b := false) 73 rfl rfl rfl) rfl ?_
                refine WQ_val rfl gd0 (o_pickF (v := .bool false) rfl rfl rfl) rfl ?_
                refine WQ_val rfl gd0 (o_assign (v := .bool false) rfl) rfl ?_
                refine WQ_nil ?_
                refine nrm ?_
                refine WC_ret ?_
                refine rtE ?_
                exact gv1 rfl rfl h
            · rw [if_neg (neT hb112)] at h
              refine WQ_skip rfl (gdN (b := x111) 65 rfl rfl hb112) rfl ?_
              refine WQ_skip rfl (gdN (b := x111) 65 rfl rfl hb112) rfl ?_
              refine WQ_val rfl gd0 (o_pickF (v := .bool false) rfl hb112 rfl) rfl ?_
              refine WQ_val rfl gd0 (o_move (v := .bool false) rfl) rfl ?_
              refine WQ_skip rfl (gdN (b := false) 69 rfl rfl rfl) rfl ?_
              refine WQ_skip rfl (gdN (b := false) 69 rfl rfl rfl) rfl ?_
              refine WQ_val rfl gd0 (o_pickF (v := .bool false) rfl rfl rfl) rfl ?_
              refine WQ_val rfl gd0 (o_move (v := .bool false) rfl) rfl ?_
              refine WQ_skip rfl (gdN (b := false) 73 rfl rfl rfl) rfl ?_
              refine WQ_val rfl gd0 (o_pickF (v := .bool false) rfl rfl rfl) rfl ?_
              refine WQ_val rfl gd0 (o_assign (v := .bool false) rfl) rfl ?_
              refine WQ_nil ?_
              refine nrm ?_
              refine WC_ret ?_
              refine rtE ?_
              exact gv1 rfl rfl h
          · rw [if_neg (neT hb91)] at h
            refine WQ_skip rfl (gdN (b := (s79.toList == s89.toList)) 60 rfl rfl hb91) rfl ?_
            refine WQ_skip rfl (gdN (b := (s79.toList == s89.toList)) 60 rfl rfl hb91) rfl ?_
            refine WQ_passAct rfl (gdN (b := (s79.toList == s89.toList)) 60 rfl rfl hb91) rfl (by exact ⟨⟨⟨⟨trivial, depT (by kernel_rfl)⟩, depT (by kernel_rfl)⟩, depT (by kernel_rfl)⟩, depT (by kernel_rfl)⟩) ?_
            refine WQ_val rfl gd0 (o_pickF (v := .bool false) rfl hb91 rfl) rfl ?_
            refine WQ_val rfl gd0 (o_move (v := .bool false) rfl) rfl ?_
            refine WQ_skip rfl (gdN (b := false) 65 rfl rfl rfl) rfl ?_
            refine WQ_skip rfl (gdN (b := false) 65 rfl rfl rfl) rfl ?_
            refine WQ_val rfl gd0 (o_pickF (v := .bool false) rfl rfl rfl) rfl ?_
            refine WQ_val rfl gd0 (o_move (v := .bool false) rfl) rfl ?_
            refine WQ_skip rfl (gdN (b := false) 69 rfl rfl rfl) rfl ?_
            refine WQ_skip rfl (gdN (b := false) 69 rfl rfl rfl) rfl ?_
            refine WQ_val rfl gd0 (o_pickF (v := .bool false) rfl rfl rfl) rfl ?_
            refine WQ_val rfl gd0 (o_move (v := .bool false) rfl) rfl ?_
            refine WQ_skip rfl (gdN (b := false) 73 rfl rfl rfl) rfl ?_
            refine WQ_val rfl gd0 (o_pickF (v := .bool false) rfl rfl rfl) rfl ?_
            refine WQ_val rfl gd0 (o_assign (v := .bool false) rfl) rfl ?_
            refine WQ_nil ?_
            refine nrm ?_
            refine WC_ret ?_
            refine rtE ?_
            exact gv1 rfl rfl h
        · rw [if_neg (neT hb78)] at h
          refine WQ_skip rfl (gdN (b := (s66.toList == s76.toList)) 52 rfl rfl hb78) rfl ?_
          refine WQ_skip rfl (gdN (b := (s66.toList == s76.toList)) 52 rfl rfl hb78) rfl ?_
          refine WQ_passAct rfl (gdN (b := (s66.toList == s76.toList)) 52 rfl rfl hb78) rfl (by exact ⟨⟨trivial, depT (by kernel_rfl)⟩, depT (by kernel_rfl)⟩) ?_
          refine WQ_passAct rfl (gdN (b := (s66.toList == s76.toList)) 52 rfl rfl hb78) rfl (by exact ⟨⟨trivial, depT (by kernel_rfl)⟩, depT (by kernel_rfl)⟩) ?_
          refine WQ_skip rfl (gdN (b := (s66.toList == s76.toList)) 52 rfl rfl hb78) rfl ?_
          refine WQ_skip rfl (gdN (b := (s66.toList == s76.toList)) 52 rfl rfl hb78) rfl ?_
          refine WQ_val rfl gd0 (o_pickF (v := .bool false) rfl hb78 rfl) rfl ?_
          refine WQ_val rfl gd0 (o_move (v := .bool false) rfl) rfl ?_
          refine WQ_skip rfl (gdN (b := false) 60 rfl rfl rfl) rfl ?_
          refine WQ_skip rfl (gdN (b := false) 60 rfl rfl rfl) rfl ?_
          refine WQ_passAct rfl (gdN (b := false) 60 rfl rfl rfl) rfl (by exact ⟨⟨trivial, depT (by kernel_rfl)⟩, depT (by kernel_rfl)⟩) ?_
          refine WQ_val rfl gd0 (o_pickF (v := .bool false) rfl rfl rfl) rfl ?_
          refine WQ_val rfl gd0 (o_move (v := .bool false) rfl) rfl ?_
          refine WQ_skip rfl (gdN (b := false) 65 rfl rfl rfl) rfl ?_
          refine WQ_skip rfl (gdN (b := false) 65 rfl rfl rfl) rfl ?_
          refine WQ_val rfl gd0 (o_pickF (v := .bool false) rfl rfl rfl) rfl ?_
          refine WQ_val rfl gd0 (o_move (v := .bool false) rfl) rfl ?_
          refine WQ_skip rfl (gdN (b := false) 69 rfl rfl rfl) rfl ?_
          refine WQ_skip rfl (gdN (b := false) 69 rfl rfl rfl) rfl ?_
          refine WQ_val rfl gd0 (o_pickF (v := .bool false) rfl rfl rfl) rfl ?_
          refine WQ_val rfl gd0 (o_move (v := .bool false) rfl) rfl ?_
          refine WQ_skip rfl (gdN (b := false) 73 rfl rfl rfl) rfl ?_
          refine WQ_val rfl gd0 (o_pickF (v := .bool false) rfl rfl rfl) rfl ?_
          refine WQ_val rfl gd0 (o_assign (v := .bool false) rfl) rfl ?_
          refine WQ_nil ?_
          refine nrm ?_
          refine WC_ret ?_
          refine rtE ?_
          exact gv1 rfl rfl h
      · rw [if_neg (of_decide_eq_false hb65)] at h
        refine WQ_skip rfl (gdN (b := (decide (r45 = 0))) 44 rfl rfl hb65) rfl ?_
        refine WQ_skip rfl (gdN (b := (decide (r45 = 0))) 44 rfl rfl hb65) rfl ?_
        refine WQ_passAct rfl (gdN (b := (decide (r45 = 0))) 44 rfl rfl hb65) rfl (by exact trivial) ?_
        refine WQ_passAct rfl (gdN (b := (decide (r45 = 0))) 44 rfl rfl hb65) rfl (by exact trivial) ?_
        refine WQ_skip rfl (gdN (b := (decide (r45 = 0))) 44 rfl rfl hb65) rfl ?_
        refine WQ_skip rfl (gdN (b := (decide (r45 = 0))) 44 rfl rfl hb65) rfl ?_
        refine WQ_val rfl gd0 (o_pickF (v := .bool false) rfl hb65 rfl) rfl ?_
        refine WQ_val rfl gd0 (o_move (v := .bool false) rfl) rfl ?_
        refine WQ_skip rfl (gdN (b := false) 52 rfl rfl rfl) rfl ?_
        refine WQ_skip rfl (gdN (b := false) 52 rfl rfl rfl) rfl ?_
        refine WQ_passAct rfl (gdN (b := false) 52 rfl rfl rfl) rfl (by exact trivial) ?_
        refine WQ_passAct rfl (gdN (b := false) 52 rfl rfl rfl) rfl (by exact trivial) ?_
        refine WQ_skip rfl (gdN (b := false) 52 rfl rfl rfl) rfl ?_
        refine WQ_skip rfl (gdN (b := false) 52 rfl rfl rfl) rfl ?_
        refine WQ_val rfl gd0 (o_pickF (v := .bool false) rfl rfl rfl) rfl ?_
        refine WQ_val rfl gd0 (o_move (v := .bool false) rfl) rfl ?_
        refine WQ_skip rfl (gdN (b := false) 60 rfl rfl rfl) rfl ?_
        refine WQ_skip rfl (gdN (b := false) 60 rfl rfl rfl) rfl ?_
        refine WQ_passAct rfl (gdN (b := false) 60 rfl rfl rfl) rfl (by exact trivial) ?_
        refine WQ_val rfl gd0 (o_pickF (v := .bool false) rfl rfl rfl) rfl ?_
        refine WQ_val rfl gd0 (o_move (v := .bool false) rfl) rfl ?_
        refine WQ_skip rfl (gdN (b := false) 65 rfl rfl rfl) rfl ?_
        refine WQ_skip rfl (gdN (b := false) 65 rfl rfl rfl) rfl ?_
        refine WQ_val rfl gd0 (o_pickF (v := .bool false) rfl rfl rfl) rfl ?_
        refine WQ_val rfl gd0 (o_move (v := .bool false) rfl) rfl ?_
        refine WQ_skip rfl (gdN (b := false) 69 rfl rfl rfl) rfl ?_
        refine WQ_skip rfl (gdN (b := false) 69 rfl rfl rfl) rfl ?_
        refine WQ_val rfl gd0 (o_pickF (v := .bool false) rfl rfl rfl) rfl ?_
        refine WQ_val rfl gd0 (o_move (v := .bool false) rfl) rfl ?_
        refine WQ_skip rfl (gdN (b := false) 73 rfl rfl rfl) rfl ?_
        refine WQ_val rfl gd0 (o_pickF (v := .bool false) rfl rfl rfl) rfl ?_
        refine WQ_val rfl gd0 (o_assign (v := .bool false) rfl) rfl ?_
        refine WQ_nil ?_
        refine nrm ?_
        refine WC_ret ?_
        refine rtE ?_
        exact gv1 rfl rfl h
    · rw [if_neg (of_decide_eq_false hb64)] at h
      refine WQ_skip rfl (gdN (b := (decide (r35 = 0))) 40 rfl rfl hb64) rfl ?_
      refine WQ_skip rfl (gdN (b := (decide (r35 = 0))) 40 rfl rfl hb64) rfl ?_
      refine WQ_val rfl gd0 (o_pickF (v := .bool false) rfl hb64 rfl) rfl ?_
      refine WQ_val rfl gd0 (o_move (v := .bool false) rfl) rfl ?_
      refine WQ_skip rfl (gdN (b := false) 44 rfl rfl rfl) rfl ?_
      refine WQ_skip rfl (gdN (b := false) 44 rfl rfl rfl) rfl ?_
      refine WQ_passAct rfl (gdN (b := false) 44 rfl rfl rfl) rfl (by exact trivial) ?_
      refine WQ_passAct rfl (gdN (b := false) 44 rfl rfl rfl) rfl (by exact trivial) ?_
      refine WQ_skip rfl (gdN (b := false) 44 rfl rfl rfl) rfl ?_
      refine WQ_skip rfl (gdN (b := false) 44 rfl rfl rfl) rfl ?_
      refine WQ_val rfl gd0 (o_pickF (v := .bool false) rfl rfl rfl) rfl ?_
      refine WQ_val rfl gd0 (o_move (v := .bool false) rfl) rfl ?_
      refine WQ_skip rfl (gdN (b := false) 52 rfl rfl rfl) rfl ?_
      refine WQ_skip rfl (gdN (b := false) 52 rfl rfl rfl) rfl ?_
      refine WQ_passAct rfl (gdN (b := false) 52 rfl rfl rfl) rfl (by exact trivial) ?_
      refine WQ_passAct rfl (gdN (b := false) 52 rfl rfl rfl) rfl (by exact trivial) ?_
      refine WQ_skip rfl (gdN (b := false) 52 rfl rfl rfl) rfl ?_
      refine WQ_skip rfl (gdN (b := false) 52 rfl rfl rfl) rfl ?_
      refine WQ_val rfl gd0 (o_pickF (v := .bool false) rfl rfl rfl) rfl ?_
      refine WQ_val rfl gd0 (o_move (v := .bool false) rfl) rfl ?_
      refine WQ_skip rfl (gdN (b := false) 60 rfl rfl rfl) rfl ?_
      refine WQ_skip rfl (gdN (b := false) 60 rfl rfl rfl) rfl ?_
      refine WQ_passAct rfl (gdN (b := false) 60 rfl rfl rfl) rfl (by exact trivial) ?_
      refine WQ_val rfl gd0 (o_pickF (v := .bool false) rfl rfl rfl) rfl ?_
      refine WQ_val rfl gd0 (o_move (v := .bool false) rfl) rfl ?_
      refine WQ_skip rfl (gdN (b := false) 65 rfl rfl rfl) rfl ?_
      refine WQ_skip rfl (gdN (b := false) 65 rfl rfl rfl) rfl ?_
      refine WQ_val rfl gd0 (o_pickF (v := .bool false) rfl rfl rfl) rfl ?_
      refine WQ_val rfl gd0 (o_move (v := .bool false) rfl) rfl ?_
      refine WQ_skip rfl (gdN (b := false) 69 rfl rfl rfl) rfl ?_
      refine WQ_skip rfl (gdN (b := false) 69 rfl rfl rfl) rfl ?_
      refine WQ_val rfl gd0 (o_pickF (v := .bool false) rfl rfl rfl) rfl ?_
      refine WQ_val rfl gd0 (o_move (v := .bool false) rfl) rfl ?_
      refine WQ_skip rfl (gdN (b := false) 73 rfl rfl rfl) rfl ?_
      refine WQ_val rfl gd0 (o_pickF (v := .bool false) rfl rfl rfl) rfl ?_
      refine WQ_val rfl gd0 (o_assign (v := .bool false) rfl) rfl ?_
      refine WQ_nil ?_
      refine nrm ?_
      refine WC_ret ?_
      refine rtE ?_
      exact gv1 rfl rfl h
  · rw [if_neg (of_decide_eq_false hb63)] at h
    refine WQ_skip rfl (gdN (b := (decide (r21 = 0))) 36 rfl rfl hb63) rfl ?_
    refine WQ_skip rfl (gdN (b := (decide (r21 = 0))) 36 rfl rfl hb63) rfl ?_
    refine WQ_val rfl gd0 (o_pickF (v := .bool false) rfl hb63 rfl) rfl ?_
    refine WQ_val rfl gd0 (o_move (v := .bool false) rfl) rfl ?_
    refine WQ_skip rfl (gdN (b := false) 40 rfl rfl rfl) rfl ?_
    refine WQ_skip rfl (gdN (b := false) 40 rfl rfl rfl) rfl ?_
    refine WQ_val rfl gd0 (o_pickF (v := .bool false) rfl rfl rfl) rfl ?_
    refine WQ_val rfl gd0 (o_move (v := .bool false) rfl) rfl ?_
    refine WQ_skip rfl (gdN (b := false) 44 rfl rfl rfl) rfl ?_
    refine WQ_skip rfl (gdN (b := false) 44 rfl rfl rfl) rfl ?_
    refine WQ_passAct rfl (gdN (b := false) 44 rfl rfl rfl) rfl (by exact trivial) ?_
    refine WQ_passAct rfl (gdN (b := false) 44 rfl rfl rfl) rfl (by exact trivial) ?_
    refine WQ_skip rfl (gdN (b := false) 44 rfl rfl rfl) rfl ?_
    refine WQ_skip rfl (gdN (b := false) 44 rfl rfl rfl) rfl ?_
    refine WQ_val rfl gd0 (o_pickF (v := .bool false) rfl rfl rfl) rfl ?_
    refine WQ_val rfl gd0 (o_move (v := .bool false) rfl) rfl ?_
    refine WQ_skip rfl (gdN (b := false) 52 rfl rfl rfl) rfl ?_
    refine WQ_skip rfl (gdN (b := false) 52 rfl rfl rfl) rfl ?_
    refine WQ_passAct rfl (gdN (b := false) 52 rfl rfl rfl) rfl (by exact trivial) ?_
    refine WQ_passAct rfl (gdN (b := false) 52 rfl rfl rfl) rfl (by exact trivial) ?_
    refine WQ_skip rfl (gdN (b := false) 52 rfl rfl rfl) rfl ?_
    refine WQ_skip rfl (gdN (b := false) 52 rfl rfl rfl) rfl ?_
    refine WQ_val rfl gd0 (o_pickF (v := .bool false) rfl rfl rfl) rfl ?_
    refine WQ_val rfl gd0 (o_move (v := .bool false) rfl) rfl ?_
    refine WQ_skip rfl (gdN (b := false) 60 rfl rfl rfl) rfl ?_
    refine WQ_skip rfl (gdN (b := false) 60 rfl rfl rfl) rfl ?_
    refine WQ_passAct rfl (gdN (b := false) 60 rfl rfl rfl) rfl (by exact trivial) ?_
    refine WQ_val rfl gd0 (o_pickF (v := .bool false) rfl rfl rfl) rfl ?_
    refine WQ_val rfl gd0 (o_move (v := .bool false) rfl) rfl ?_
    refine WQ_skip rfl (gdN (b := false) 65 rfl rfl rfl) rfl ?_
    refine WQ_skip rfl (gdN (b := false) 65 rfl rfl rfl) rfl ?_
    refine WQ_val rfl gd0 (o_pickF (v := .bool false) rfl rfl rfl) rfl ?_
    refine WQ_val rfl gd0 (o_move (v := .bool false) rfl) rfl ?_
    refine WQ_skip rfl (gdN (b := false) 69 rfl rfl rfl) rfl ?_
    refine WQ_skip rfl (gdN (b := false) 69 rfl rfl rfl) rfl ?_
    refine WQ_val rfl gd0 (o_pickF (v := .bool false) rfl rfl rfl) rfl ?_
    refine WQ_val rfl gd0 (o_move (v := .bool false) rfl) rfl ?_
    refine WQ_skip rfl (gdN (b := false) 73 rfl rfl rfl) rfl ?_
    refine WQ_val rfl gd0 (o_pickF (v := .bool false) rfl rfl rfl) rfl ?_
    refine WQ_val rfl gd0 (o_assign (v := .bool false) rfl) rfl ?_
    refine WQ_nil ?_
    refine nrm ?_
    refine WC_ret ?_
    refine rtE ?_
    exact gv1 rfl rfl h

/-- spacecraft tcframe.Encode -/
def F9 (f1 : Bool) (f2 : Bool) (f3 : Int) (f4 : Int) (f5 : Int) (f_a6 : Option Addr) (f_n7 : Nat) (f_c8 : Nat) (w9 : World) (k : Value → World → Prop) : Prop :=
  New w9 24 [.bool f1, .bool f2, .int .i64 f3, .int .i64 f4, .int .i64 f5, .slice f_a6 f_n7 f_c8] (fun p10 w11 => ∃ (x12 x13 : Bool) (x14 x15 x16 : Int) (x_a17 : Option Addr) (x_n18 x_c19 : Nat), Cells w11 p10 0 [.bool x12, .bool x13, .int .i64 x14, .int .i64 x15, .int .i64 x16, .slice x_a17 x_n18 x_c19] ∧ Does Try.prog 13 #[.agg #[.bool x12, .bool x13, .int .i64 x14, .int .i64 x15, .int .i64 x16, .slice x_a17 x_n18 x_c19]] w11 (fun v w21 => ∃ (x22 : Bool), v = .bool x22 ∧ if (!x22) = true then
  k (.tuple #[.slice none 0 0, .int .i64 1]) w21
else
  ∃ (x24 x25 : Bool) (x26 x27 x28 : Int) (x_a29 : Option Addr) (x_n30 x_c31 : Nat), Cells w21.drew p10 0 [.bool x24, .bool x25, .int .i64 x26, .int .i64 x27, .int .i64 x28, .slice x_a29 x_n30 x_c31] ∧ ∃ (x_a33 : Option Addr) (x_n34 x_c35 : Nat), w21.drew.cell? (p10.add 5) = some (.slice x_a33 x_n34 x_c35) ∧ Does Try.prog 25 #[.agg #[.bool x24, .bool x25, .int .i64 x26, .int .i64 x27, .int .i64 x28, .slice x_a29 x_n30 x_c31]] w21.drew (fun v w37 => ∃ (x_a38 : Option Addr) (x_n39 x_c40 : Nat), v = .slice x_a38 x_n39 x_c40 ∧ w37.cell? (p10.add 5) = some (.slice x_a33 x_n34 x_c35) ∧ ∃ (b_a42 : Option Addr) (b_n43 b_c44 : Nat) (w45 : World), (Builtin.append_ #[22, 22] 22 #[.slice x_a38 x_n39 x_c40, .slice x_a33 x_n34 x_c35]).run Try.prog w37 = .ok (.slice b_a42 b_n43 b_c44) w45 ∧ Does Try.prog 24 #[.slice b_a42 b_n43 b_c44] w45 (fun v w47 => ∃ (t_a48 : Option Addr) (t_n49 t_c50 : Nat), v = .slice t_a48 t_n49 t_c50 ∧ k (.tuple #[.slice t_a48 t_n49 t_c50, .int .i64 0]) w47))))
set_option maxRecDepth 100000 in
set_option maxHeartbeats 2000000 in
theorem w9 (f1 : Bool) (f2 : Bool) (f3 : Int) (f4 : Int) (f5 : Int) (f_a6 : Option Addr) (f_n7 : Nat) (f_c8 : Nat) (w9 : World) (k : Value → World → Prop) (h : F9 f1 f2 f3 f4 f5 f_a6 f_n7 f_c8 w9 k) : Does Try.prog 9 #[.agg #[.bool f1, .bool f2, .int .i64 f3, .int .i64 f4, .int .i64 f5, .slice f_a6 f_n7 f_c8]] w9 k := by
  refine enter 13 Try.func9 rfl rfl rfl ?_
  intro ρ hρ
  have e0 := hρ 0 _ rfl
  unfold F9 at h
  refine WC_seq ?_
  refine WC_region ?_
  have h := New.out h
  refine WL_val gd0 (o_box (v := .agg #[.bool f1, .bool f2, .int .i64 f3, .int .i64 f4, .int .i64 f5, .slice f_a6 f_n7 f_c8]) (cs := [.bool f1, .bool f2, .int .i64 f3, .int .i64 f4, .int .i64 f5, .slice f_a6 f_n7 f_c8]) (by exact e0) rfl) rfl ?_
  generalize hp10 : fresh w9 = p10 at h ⊢
  generalize hw11 : push w9 24 [.bool f1, .bool f2, .int .i64 f3, .int .i64 f4, .int .i64 f5, .slice f_a6 f_n7 f_c8] = w11 at h ⊢
  try dsimp only at h
  refine WL_val gd0 ((o_assign (v := .slice none 0 0) rfl) _) rfl ?_
  refine WL_val gd0 ((o_assign (v := .int .i64 0) rfl) _) rfl ?_
  refine WL_nil ?_
  refine nrm ?_
  refine WC_seq ?_
  refine WC_seq ?_
  refine WC_region ?_
  obtain ⟨x12, x13, x14, x15, x16, x_a17, x_n18, x_c19, hc20, h⟩ := h
  refine WL_val gd0 (o_loadAgg (vs := [.bool x12, .bool x13, .int .i64 x14, .int .i64 x15, .int .i64 x16, .slice x_a17 x_n18 x_c19]) Try.isAgg24 Try.sizeOf24 rfl hc20) rfl ?_
  refine WL_call gd0 (o_call Try.call13 (argCons rfl argNil) _) rfl (h.mono ?_)
  rintro _ w21 ⟨x22, rfl, h⟩
  refine WL_val gd0 ((o_not rfl) _) rfl ?_
  refine WL_nil ?_
  refine nrm ?_
  refine WC_cond (t := (!x22)) rfl (fun hb23 => ?_) (fun hb23 => ?_)
  · rw [if_pos hb23] at h
    refine WC_seq ?_
    refine WC_region ?_
    refine WL_val gd0 ((o_assign (v := .slice none 0 0) rfl) _) rfl ?_
    refine WL_val gd0 ((o_assign (v := .int .i64 1) rfl) _) rfl ?_
    refine WL_nil ?_
    refine nrm ?_
    refine WC_ret ?_
    refine rtT ?_
    refine rtE ?_
    exact gv2 rfl rfl rfl h
  · rw [if_neg (neT hb23)] at h
    refine WC_skip ?_
    refine nrm ?_
    refine WC_seq ?_
    refine WC_draws [1, 4, 5] (.look 0 (.look 2 (.look 3 (.act 1 (.act 4 (.act 5 (.look 6 (.look 7 .nil)))))))) Try.mixed (by kernel_rfl) ?_
    obtain ⟨x24, x25, x26, x27, x28, x_a29, x_n30, x_c31, hc32, h⟩ := h
    refine WQ_look (fun w => Cells w p10 0 [.bool x24, .bool x25, .int .i64 x26, .int .i64 x27, .int .i64 x28, .slice x_a29 x_n30 x_c31]) rfl gd0 (fun w hc => (o_loadAgg (vs := [.bool x24, .bool x25, .int .i64 x26, .int .i64 x27, .int .i64 x28, .slice x_a29 x_n30 x_c31]) Try.isAgg24 Try.sizeOf24 rfl hc)) hc32 rfl ?_
    refine WQ_val rfl gd0 (o_fieldAddr 5 Try.underlying24 rfl Try.sizeOf22 rfl rfl rfl) rfl ?_
    obtain ⟨x_a33, x_n34, x_c35, hc36, h⟩ := h
    refine WQ_look (fun w => w.cell? (p10.add 5) = some (.slice x_a33 x_n34 x_c35)) rfl gd0 (fun w hc => (o_load Try.isAgg22 rfl hc)) hc36 rfl ?_
    refine WQ_call rfl gd0 (o_call Try.call25 (argCons rfl argNil) _) rfl (h.mono ?_)
    rintro _ w37 ⟨x_a38, x_n39, x_c40, rfl, hh41, h⟩
    refine ⟨⟨⟨trivial, depT (by kernel_rfl)⟩, fun _ => hh41⟩, ?_⟩
    obtain ⟨b_a42, b_n43, b_c44, w45, r46, h⟩ := h
    refine WQ_act rfl gd0 (o_append rfl rfl r46) rfl (by exact ⟨⟨trivial, depT (by kernel_rfl)⟩, depT (by kernel_rfl)⟩) ?_
    refine WQ_call rfl gd0 (o_call Try.call24 (argCons rfl argNil) _) rfl (h.mono ?_)
    rintro _ w47 ⟨t_a48, t_n49, t_c50, rfl, h⟩
    refine ⟨⟨⟨trivial, depT (by kernel_rfl)⟩, depT (by kernel_rfl)⟩, ?_⟩
    refine WQ_val rfl gd0 (o_assign (v := .slice t_a48 t_n49 t_c50) rfl) rfl ?_
    refine WQ_val rfl gd0 (o_assign (v := .int .i64 0) rfl) rfl ?_
    refine WQ_nil ?_
    refine nrm ?_
    refine WC_ret ?_
    refine rtE ?_
    exact gv2 rfl rfl rfl h

def F10_j2 (p10 : Addr) (first32 : Int) (w33 : World) (k : Value → World → Prop) : Prop :=
  ∃ (x34 : Int), w33.cell? (p10.add 3) = some (.int .i64 x34) ∧ ∃ (x_a36 : Option Addr) (x_n37 x_c38 : Nat), w33.cell? (p10.add 5) = some (.slice x_a36 x_n37 x_c38) ∧ ∃ (x40 : Int), w33.cell? (p10.add 4) = some (.int .i64 x40) ∧ New w33 5 [.int .u8 (IntKind.u8.wrap (IntKind.i64.wrap (Int.tdiv first32 256))), .int .u8 (IntKind.u8.wrap (Int.tmod first32 256)), .int .u8 (IntKind.u8.wrap (IntKind.i64.wrap (Int.tdiv (IntKind.i64.wrap ((IntKind.i64.wrap ((IntKind.i64.wrap (x34 * 1024)) + (x_n37 : Int))) + 6)) 256))), .int .u8 (IntKind.u8.wrap (Int.tmod (IntKind.i64.wrap ((IntKind.i64.wrap ((IntKind.i64.wrap (x34 * 1024)) + (x_n37 : Int))) + 6)) 256)), .int .u8 (IntKind.u8.wrap x40)] (fun p42 w43 => ∃ (x_a44 : Option Addr) (x_n45 x_c46 : Nat), w43.cell? (p10.add 5) = some (.slice x_a44 x_n45 x_c46) ∧ ∃ (b_a48 : Option Addr) (b_n49 b_c50 : Nat) (w51 : World), (Builtin.append_ #[22, 22] 22 #[.slice (some p42) 5 5, .slice x_a44 x_n45 x_c46]).run Try.prog w43 = .ok (.slice b_a48 b_n49 b_c50) w51 ∧ Does Try.prog 23 #[.slice b_a48 b_n49 b_c50] w51 (fun v w53 => ∃ (t_a54 : Option Addr) (t_n55 t_c56 : Nat), v = .slice t_a54 t_n55 t_c56 ∧ k (.tuple #[.slice t_a54 t_n55 t_c56, .int .i64 0]) w53))
def F10_j1 (p10 : Addr) (first28 : Int) (w29 : World) (k : Value → World → Prop) : Prop :=
  ∃ (x57 : Bool), w29.cell? (p10.add 1) = some (.bool x57) ∧ if x57 = true then
  F10_j2 p10 (IntKind.i64.wrap (first28 + 4096)) w29 k
else
  F10_j2 p10 first28 w29 k
/-- spacecraft spacecraftref14.Encode -/
def F10 (f1 : Bool) (f2 : Bool) (f3 : Int) (f4 : Int) (f5 : Int) (f_a6 : Option Addr) (f_n7 : Nat) (f_c8 : Nat) (w9 : World) (k : Value → World → Prop) : Prop :=
  New w9 24 [.bool f1, .bool f2, .int .i64 f3, .int .i64 f4, .int .i64 f5, .slice f_a6 f_n7 f_c8] (fun p10 w11 => ∃ (x12 x13 : Bool) (x14 x15 x16 : Int) (x_a17 : Option Addr) (x_n18 x_c19 : Nat), Cells w11 p10 0 [.bool x12, .bool x13, .int .i64 x14, .int .i64 x15, .int .i64 x16, .slice x_a17 x_n18 x_c19] ∧ Does Try.prog 14 #[.agg #[.bool x12, .bool x13, .int .i64 x14, .int .i64 x15, .int .i64 x16, .slice x_a17 x_n18 x_c19]] w11 (fun v w21 => ∃ (x22 : Bool), v = .bool x22 ∧ if (!x22) = true then
  k (.tuple #[.slice none 0 0, .int .i64 1]) w21
else
  ∃ (first24 : Int), w21.cell? (p10.add 2) = some (.int .i64 first24) ∧ ∃ (x60 : Bool), w21.cell? p10 = some (.bool x60) ∧ if x60 = true then
    F10_j1 p10 (IntKind.i64.wrap (first24 + 8192)) w21 k
  else
    F10_j1 p10 first24 w21 k))
set_option maxRecDepth 100000 in
set_option maxHeartbeats 2000000 in
theorem w10 (f1 : Bool) (f2 : Bool) (f3 : Int) (f4 : Int) (f5 : Int) (f_a6 : Option Addr) (f_n7 : Nat) (f_c8 : Nat) (w9 : World) (k : Value → World → Prop) (h : F10 f1 f2 f3 f4 f5 f_a6 f_n7 f_c8 w9 k) : Does Try.prog 10 #[.agg #[.bool f1, .bool f2, .int .i64 f3, .int .i64 f4, .int .i64 f5, .slice f_a6 f_n7 f_c8]] w9 k := by
  refine enter 49 Try.func10 rfl rfl rfl ?_
  intro ρ hρ
  have e0 := hρ 0 _ rfl
  unfold F10 at h
  refine WC_seq ?_
  refine WC_region ?_
  have h := New.out h
  refine WL_val gd0 (o_box (v := .agg #[.bool f1, .bool f2, .int .i64 f3, .int .i64 f4, .int .i64 f5, .slice f_a6 f_n7 f_c8]) (cs := [.bool f1, .bool f2, .int .i64 f3, .int .i64 f4, .int .i64 f5, .slice f_a6 f_n7 f_c8]) (by exact e0) rfl) rfl ?_
  generalize hp10 : fresh w9 = p10 at h ⊢
  generalize hw11 : push w9 24 [.bool f1, .bool f2, .int .i64 f3, .int .i64 f4, .int .i64 f5, .slice f_a6 f_n7 f_c8] = w11 at h ⊢
  try dsimp only at h
  refine WL_val gd0 ((o_assign (v := .slice none 0 0) rfl) _) rfl ?_
  refine WL_val gd0 ((o_assign (v := .int .i64 0) rfl) _) rfl ?_
  refine WL_nil ?_
  refine nrm ?_
  refine WC_seq ?_
  refine WC_seq ?_
  refine WC_region ?_
  obtain ⟨x12, x13, x14, x15, x16, x_a17, x_n18, x_c19, hc20, h⟩ := h
  refine WL_val gd0 (o_loadAgg (vs := [.bool x12, .bool x13, .int .i64 x14, .int .i64 x15, .int .i64 x16, .slice x_a17 x_n18 x_c19]) Try.isAgg24 Try.sizeOf24 rfl hc20) rfl ?_
  refine WL_call gd0 (o_call Try.call14 (argCons rfl argNil) _) rfl (h.mono ?_)
  rintro _ w21 ⟨x22, rfl, h⟩
  refine WL_val gd0 ((o_not rfl) _) rfl ?_
  refine WL_nil ?_
  refine nrm ?_
  refine WC_cond (t := (!x22)) rfl (fun hb23 => ?_) (fun hb23 => ?_)
  · rw [if_pos hb23] at h
    refine WC_seq ?_
    refine WC_region ?_
    refine WL_val gd0 ((o_assign (v := .slice none 0 0) rfl) _) rfl ?_
    refine WL_val gd0 ((o_assign (v := .int .i64 1) rfl) _) rfl ?_
    refine WL_nil ?_
    refine nrm ?_
    refine WC_ret ?_
    refine rtT ?_
    refine rtE ?_
    exact gv2 rfl rfl rfl h
  · rw [if_neg (neT hb23)] at h
    refine WC_skip ?_
    refine nrm ?_
    refine WC_seq ?_
    refine WC_region ?_
    refine WL_val gd0 ((o_fieldAddr 2 Try.underlying24 rfl Try.sizeOf3 rfl rfl rfl) _) rfl ?_
    obtain ⟨first24, hc25, h⟩ := h
    refine WL_val gd0 (o_load Try.isAgg3 rfl hc25) rfl ?_
    refine WL_val gd0 ((o_assign (v := .int .i64 first24) rfl) _) rfl ?_
    refine WL_nil ?_
    refine nrm ?_
    refine WC_cut (fun ρ w' => ∃ (first28 : Int), ρ 4 = .int .i64 first28 ∧ ρ 1 = .pointer (some p10) ∧ F10_j1 p10 first28 w' k) ?_ ?_
    · refine WC_seq ?_
      refine WC_region ?_
      refine WL_val gd0 ((o_fieldAddr0 Try.underlying24 rfl Try.sizeOf4 rfl rfl rfl) _) rfl ?_
      obtain ⟨x60, hc61, h⟩ := h
      refine WL_val gd0 (o_load Try.isAgg4 rfl hc61) rfl ?_
      refine WL_nil ?_
      refine nrm ?_
      refine WC_cond (t := x60) rfl (fun hb62 => ?_) (fun hb62 => ?_)
      · rw [if_pos hb62] at h
        refine WC_region ?_
        refine WL_val gd0 ((o_move (v := .int .i64 first24) rfl) _) rfl ?_
        refine WL_val gd0 ((o_add rfl rfl) _) rfl ?_
        refine WL_val gd0 ((o_assign (v := .int .i64 (IntKind.i64.wrap (first24 + 8192))) rfl) _) rfl ?_
        refine WL_nil ?_
        refine nrm ?_
        exact ⟨_, rfl, rfl, h⟩
      · rw [if_neg (neT hb62)] at h
        refine WC_skip ?_
        refine nrm ?_
        exact ⟨_, rfl, rfl, h⟩
    · rintro ρ w29 ⟨first28, e4_27, e1_26, h⟩
      unfold F10_j1 at h
      refine WC_cut (fun ρ w' => ∃ (first32 : Int), ρ 4 = .int .i64 first32 ∧ ρ 1 = .pointer (some p10) ∧ F10_j2 p10 first32 w' k) ?_ ?_
      · refine WC_seq ?_
        refine WC_region ?_
        refine WL_val gd0 ((o_fieldAddr 1 Try.underlying24 rfl Try.sizeOf4 rfl rfl (by exact e1_26)) _) rfl ?_
        obtain ⟨x57, hc58, h⟩ := h
        refine WL_val gd0 (o_load Try.isAgg4 rfl hc58) rfl ?_
        refine WL_nil ?_
        refine nrm ?_
        refine WC_cond (t := x57) rfl (fun hb59 => ?_) (fun hb59 => ?_)
        · rw [if_pos hb59] at h
          refine WC_region ?_
          refine WL_val gd0 ((o_move (v := .int .i64 first28) (by exact e4_27)) _) rfl ?_
          refine WL_val gd0 ((o_add rfl rfl) _) rfl ?_
          refine WL_val gd0 ((o_assign (v := .int .i64 (IntKind.i64.wrap (first28 + 4096))) rfl) _) rfl ?_
          refine WL_nil ?_
          refine nrm ?_
          exact ⟨_, rfl, e1_26, h⟩
        · rw [if_neg (neT hb59)] at h
          refine WC_skip ?_
          refine nrm ?_
          exact ⟨_, e4_27, e1_26, h⟩
      · rintro ρ w33 ⟨first32, e4_31, e1_30, h⟩
        unfold F10_j2 at h
        refine WC_seq ?_
        refine WC_region ?_
        refine WL_val gd0 ((o_fieldAddr 3 Try.underlying24 rfl Try.sizeOf3 rfl rfl (by exact e1_30)) _) rfl ?_
        obtain ⟨x34, hc35, h⟩ := h
        refine WL_val gd0 (o_load Try.isAgg3 rfl hc35) rfl ?_
        refine WL_val gd0 ((o_mul rfl rfl) _) rfl ?_
        refine WL_val gd0 ((o_fieldAddr 5 Try.underlying24 rfl Try.sizeOf22 rfl rfl (by exact e1_30)) _) rfl ?_
        obtain ⟨x_a36, x_n37, x_c38, hc39, h⟩ := h
        refine WL_val gd0 (o_load Try.isAgg22 rfl hc39) rfl ?_
        refine WL_val gd0 ((o_len Try.underlying22 rfl) _) rfl ?_
        refine WL_val gd0 ((o_add rfl rfl) _) rfl ?_
        refine WL_val gd0 ((o_add rfl rfl) _) rfl ?_
        refine WL_val gd0 ((o_assign (v := .int .i64 (IntKind.i64.wrap ((IntKind.i64.wrap ((IntKind.i64.wrap (x34 * 1024)) + (x_n37 : Int))) + 6))) rfl) _) rfl ?_
        refine WL_nil ?_
        refine nrm ?_
        refine WC_seq ?_
        refine WC_region ?_
        refine WL_val gd0 ((o_move (v := .int .i64 first32) (by exact e4_31)) _) rfl ?_
        refine WL_val gd0 ((fun w => o_quo rfl rfl w (by decide)) _) rfl ?_
        refine WL_val gd0 ((o_conv Try.underlying3 Try.underlying5 rfl) _) rfl ?_
        refine WL_val gd0 ((o_move (v := .int .i64 first32) (by exact e4_31)) _) rfl ?_
        refine WL_val gd0 ((fun w => o_rem rfl rfl w (by decide)) _) rfl ?_
        refine WL_val gd0 ((o_conv Try.underlying3 Try.underlying5 rfl) _) rfl ?_
        refine WL_val gd0 ((o_move (v := .int .i64 (IntKind.i64.wrap ((IntKind.i64.wrap ((IntKind.i64.wrap (x34 * 1024)) + (x_n37 : Int))) + 6))) rfl) _) rfl ?_
        refine WL_val gd0 ((fun w => o_quo rfl rfl w (by decide)) _) rfl ?_
        refine WL_val gd0 ((o_conv Try.underlying3 Try.underlying5 rfl) _) rfl ?_
        refine WL_val gd0 ((o_move (v := .int .i64 (IntKind.i64.wrap ((IntKind.i64.wrap ((IntKind.i64.wrap (x34 * 1024)) + (x_n37 : Int))) + 6))) rfl) _) rfl ?_
        refine WL_val gd0 ((fun w => o_rem rfl rfl w (by decide)) _) rfl ?_
        refine WL_val gd0 ((o_conv Try.underlying3 Try.underlying5 rfl) _) rfl ?_
        refine WL_val gd0 ((o_fieldAddr 4 Try.underlying24 rfl Try.sizeOf3 rfl rfl (by exact e1_30)) _) rfl ?_
        obtain ⟨x40, hc41, h⟩ := h
        refine WL_val gd0 (o_load Try.isAgg3 rfl hc41) rfl ?_
        refine WL_val gd0 ((o_conv Try.underlying3 Try.underlying5 rfl) _) rfl ?_
        have h := New.out h
        refine WL_val gd0 (o_buildSlice (e := 5) (ps := [(0, .int .u8 (IntKind.u8.wrap (IntKind.i64.wrap (Int.tdiv first32 256)))), (1, .int .u8 (IntKind.u8.wrap (Int.tmod first32 256))), (2, .int .u8 (IntKind.u8.wrap (IntKind.i64.wrap (Int.tdiv (IntKind.i64.wrap ((IntKind.i64.wrap ((IntKind.i64.wrap (x34 * 1024)) + (x_n37 : Int))) + 6)) 256)))), (3, .int .u8 (IntKind.u8.wrap (Int.tmod (IntKind.i64.wrap ((IntKind.i64.wrap ((IntKind.i64.wrap (x34 * 1024)) + (x_n37 : Int))) + 6)) 256))), (4, .int .u8 (IntKind.u8.wrap x40))]) (cs := [.int .u8 (IntKind.u8.wrap (IntKind.i64.wrap (Int.tdiv first32 256))), .int .u8 (IntKind.u8.wrap (Int.tmod first32 256)), .int .u8 (IntKind.u8.wrap (IntKind.i64.wrap (Int.tdiv (IntKind.i64.wrap ((IntKind.i64.wrap ((IntKind.i64.wrap (x34 * 1024)) + (x_n37 : Int))) + 6)) 256))), .int .u8 (IntKind.u8.wrap (Int.tmod (IntKind.i64.wrap ((IntKind.i64.wrap ((IntKind.i64.wrap (x34 * 1024)) + (x_n37 : Int))) + 6)) 256)), .int .u8 (IntKind.u8.wrap x40)]) (partCons rfl (partCons rfl (partCons rfl (partCons rfl (partCons rfl partNil))))) (fun w => by kernel_rfl)) rfl ?_
        generalize hp42 : fresh w33 = p42 at h ⊢
        generalize hw43 : push w33 5 [.int .u8 (IntKind.u8.wrap (IntKind.i64.wrap (Int.tdiv first32 256))), .int .u8 (IntKind.u8.wrap (Int.tmod first32 256)), .int .u8 (IntKind.u8.wrap (IntKind.i64.wrap (Int.tdiv (IntKind.i64.wrap ((IntKind.i64.wrap ((IntKind.i64.wrap (x34 * 1024)) + (x_n37 : Int))) + 6)) 256))), .int .u8 (IntKind.u8.wrap (Int.tmod (IntKind.i64.wrap ((IntKind.i64.wrap ((IntKind.i64.wrap (x34 * 1024)) + (x_n37 : Int))) + 6)) 256)), .int .u8 (IntKind.u8.wrap x40)] = w43 at h ⊢
        try dsimp only at h
        refine WL_val gd0 ((o_assign (v := .slice (some p42) 5 5) rfl) _) rfl ?_
        refine WL_nil ?_
        refine nrm ?_
        refine WC_seq ?_
        refine WC_region ?_
        refine WL_val gd0 ((o_move (v := .slice (some p42) 5 5) rfl) _) rfl ?_
        refine WL_val gd0 ((o_fieldAddr 5 Try.underlying24 rfl Try.sizeOf22 rfl rfl (by exact e1_30)) _) rfl ?_
        obtain ⟨x_a44, x_n45, x_c46, hc47, h⟩ := h
        refine WL_val gd0 (o_load Try.isAgg22 rfl hc47) rfl ?_
        obtain ⟨b_a48, b_n49, b_c50, w51, r52, h⟩ := h
        refine WL_val gd0 (o_append rfl rfl r52) rfl ?_
        refine WL_call gd0 (o_call Try.call23 (argCons rfl argNil) _) rfl (h.mono ?_)
        rintro _ w53 ⟨t_a54, t_n55, t_c56, rfl, h⟩
        refine WL_val gd0 ((o_assign (v := .slice t_a54 t_n55 t_c56) rfl) _) rfl ?_
        refine WL_val gd0 ((o_assign (v := .int .i64 0) rfl) _) rfl ?_
        refine WL_nil ?_
        refine nrm ?_
        refine WC_ret ?_
        refine rtE ?_
        exact gv2 rfl rfl rfl h

def F11_j3 (d_a12 : Option Addr) (d_n13 : Nat) (t28 : Bool) (w29 : World) (k : Value → World → Prop) : Prop :=
  if t28 = true then
  ∃ (p33 : Addr), d_a12 = some p33 ∧ (0 : Int) ≤ 2 ∧ 2 < (d_n13 : Int) ∧ ∃ (x35 : Int), w29.drew.cell? (p33.add ((2 : Int).toNat)) = some (.int .u8 x35) ∧ k (.tuple #[.int .i64 1, .int .i64 (IntKind.i64.wrap x35), .bool true]) w29.drew
else
  k (.tuple #[.int .i64 0, .int .i64 0, .bool false]) w29
def F11_j2 (d_n13 : Nat) (d_a12 : Option Addr) (t23 : Bool) (w24 : World) (k : Value → World → Prop) : Prop :=
  if t23 = true then
  k (.tuple #[.int .i64 0, .int .i64 0, .bool true]) w24
else
  if (d_n13 : Int) = 3 then
    ∃ (p40 : Addr), d_a12 = some p40 ∧ (0 : Int) ≤ 0 ∧ 0 < (d_n13 : Int) ∧ ∃ (x42 : Int), w24.cell? (p40.add ((0 : Int).toNat)) = some (.int .u8 x42) ∧ if x42 = 130 then
      (0 : Int) ≤ 1 ∧ 1 < (d_n13 : Int) ∧ ∃ (x47 : Int), w24.cell? (p40.add ((1 : Int).toNat)) = some (.int .u8 x47) ∧ F11_j3 d_a12 d_n13 (decide (x47 = 0)) w24 k
    else
      F11_j3 d_a12 d_n13 false w24 k
  else
    F11_j3 d_a12 d_n13 false w24 k
def F11_j1 (d_n13 : Nat) (d_a12 : Option Addr) (t18 : Bool) (w19 : World) (k : Value → World → Prop) : Prop :=
  if t18 = true then
  k (.tuple #[.int .i64 0, .int .i64 0, .bool false]) w19
else
  if (d_n13 : Int) = 1 then
    ∃ (p52 : Addr), d_a12 = some p52 ∧ (0 : Int) ≤ 0 ∧ 0 < (d_n13 : Int) ∧ ∃ (x54 : Int), w19.cell? (p52.add ((0 : Int).toNat)) = some (.int .u8 x54) ∧ F11_j2 d_n13 d_a12 (decide (x54 = 0)) w19 k
  else
    F11_j2 d_n13 d_a12 false w19 k
/-- spacecraft tcframe.Directive -/
def F11 (f1 : Bool) (f2 : Bool) (f3 : Int) (f4 : Int) (f5 : Int) (f_a6 : Option Addr) (f_n7 : Nat) (f_c8 : Nat) (w9 : World) (k : Value → World → Prop) : Prop :=
  New w9 24 [.bool f1, .bool f2, .int .i64 f3, .int .i64 f4, .int .i64 f5, .slice f_a6 f_n7 f_c8] (fun p10 w11 => ∃ (d_a12 : Option Addr) (d_n13 d_c14 : Nat), w11.cell? (p10.add 5) = some (.slice d_a12 d_n13 d_c14) ∧ ∃ (x56 : Bool), w11.cell? p10 = some (.bool x56) ∧ if (!x56) = true then
  F11_j1 d_n13 d_a12 true w11 k
else
  ∃ (x59 : Bool), w11.cell? (p10.add 1) = some (.bool x59) ∧ F11_j1 d_n13 d_a12 (!x59) w11 k)
set_option maxRecDepth 100000 in
set_option maxHeartbeats 2000000 in
theorem w11 (f1 : Bool) (f2 : Bool) (f3 : Int) (f4 : Int) (f5 : Int) (f_a6 : Option Addr) (f_n7 : Nat) (f_c8 : Nat) (w9 : World) (k : Value → World → Prop) (h : F11 f1 f2 f3 f4 f5 f_a6 f_n7 f_c8 w9 k) : Does Try.prog 11 #[.agg #[.bool f1, .bool f2, .int .i64 f3, .int .i64 f4, .int .i64 f5, .slice f_a6 f_n7 f_c8]] w9 k := by
  refine enter 47 Try.func11 rfl rfl rfl ?_
  intro ρ hρ
  have e0 := hρ 0 _ rfl
  unfold F11 at h
  refine WC_seq ?_
  refine WC_region ?_
  have h := New.out h
  refine WL_val gd0 (o_box (v := .agg #[.bool f1, .bool f2, .int .i64 f3, .int .i64 f4, .int .i64 f5, .slice f_a6 f_n7 f_c8]) (cs := [.bool f1, .bool f2, .int .i64 f3, .int .i64 f4, .int .i64 f5, .slice f_a6 f_n7 f_c8]) (by exact e0) rfl) rfl ?_
  generalize hp10 : fresh w9 = p10 at h ⊢
  generalize hw11 : push w9 24 [.bool f1, .bool f2, .int .i64 f3, .int .i64 f4, .int .i64 f5, .slice f_a6 f_n7 f_c8] = w11 at h ⊢
  try dsimp only at h
  refine WL_val gd0 ((o_assign (v := .int .i64 0) rfl) _) rfl ?_
  refine WL_val gd0 ((o_assign (v := .int .i64 0) rfl) _) rfl ?_
  refine WL_val gd0 ((o_assign (v := .bool false) rfl) _) rfl ?_
  refine WL_nil ?_
  refine nrm ?_
  refine WC_seq ?_
  refine WC_region ?_
  refine WL_val gd0 ((o_fieldAddr 5 Try.underlying24 rfl Try.sizeOf22 rfl rfl rfl) _) rfl ?_
  obtain ⟨d_a12, d_n13, d_c14, hc15, h⟩ := h
  refine WL_val gd0 (o_load Try.isAgg22 rfl hc15) rfl ?_
  refine WL_val gd0 ((o_assign (v := .slice d_a12 d_n13 d_c14) rfl) _) rfl ?_
  refine WL_nil ?_
  refine nrm ?_
  refine WC_seq ?_
  refine WC_block ?_
  refine WC_cut (fun ρ w' => ∃ (t18 : Bool), ρ 8 = .bool t18 ∧ ρ 5 = .slice d_a12 d_n13 d_c14 ∧ F11_j1 d_n13 d_a12 t18 w' k) ?_ ?_
  · refine WC_region ?_
    refine WL_val gd0 ((o_fieldAddr0 Try.underlying24 rfl Try.sizeOf4 rfl rfl rfl) _) rfl ?_
    obtain ⟨x56, hc57, h⟩ := h
    refine WL_val gd0 (o_load Try.isAgg4 rfl hc57) rfl ?_
    refine WL_val gd0 ((o_not rfl) _) rfl ?_
    refine WL_val gd0 ((o_move (v := .bool (!x56)) rfl) _) rfl ?_
    refine bsplit (!x56) (fun hb58 => ?_) (fun hb58 => ?_)
    · rw [if_pos hb58] at h
      refine WL_skip (gdN (b := (!x56)) 12 rfl rfl hb58) rfl ?_
      refine WL_skip (gdN (b := (!x56)) 12 rfl rfl hb58) rfl ?_
      refine WL_skip (gdN (b := (!x56)) 12 rfl rfl hb58) rfl ?_
      refine WL_val gd0 ((o_pickT (v := .bool true) rfl hb58 rfl) _) rfl ?_
      refine WL_val gd0 ((o_assign (v := .bool true) rfl) _) rfl ?_
      refine WL_nil ?_
      refine nrm ?_
      exact ⟨_, rfl, rfl, h⟩
    · rw [if_neg (neT hb58)] at h
      refine WL_val (gdY (b := (!x56)) 12 rfl rfl hb58) ((o_fieldAddr 1 Try.underlying24 rfl Try.sizeOf4 rfl rfl rfl) _) rfl ?_
      obtain ⟨x59, hc60, h⟩ := h
      refine WL_val (gdY (b := (!x56)) 12 rfl rfl hb58) (o_load Try.isAgg4 rfl hc60) rfl ?_
      refine WL_val (gdY (b := (!x56)) 12 rfl rfl hb58) ((o_not rfl) _) rfl ?_
      refine WL_val gd0 ((o_pickF (v := .bool (!x59)) rfl hb58 rfl) _) rfl ?_
      refine WL_val gd0 ((o_assign (v := .bool (!x59)) rfl) _) rfl ?_
      refine WL_nil ?_
      refine nrm ?_
      exact ⟨_, rfl, rfl, h⟩
  · rintro ρ w19 ⟨t18, e8_17, e5_16, h⟩
    unfold F11_j1 at h
    refine WC_cond (t := t18) (by exact e8_17) (fun hb20 => ?_) (fun hb20 => ?_)
    · rw [if_pos hb20] at h
      refine WC_seq ?_
      refine WC_region ?_
      refine WL_val gd0 ((o_assign (v := .int .i64 0) rfl) _) rfl ?_
      refine WL_val gd0 ((o_assign (v := .int .i64 0) rfl) _) rfl ?_
      refine WL_val gd0 ((o_assign (v := .bool false) rfl) _) rfl ?_
      refine WL_nil ?_
      refine nrm ?_
      refine WC_ret ?_
      refine rtB ?_
      refine rtT ?_
      refine rtE ?_
      exact gv3 rfl rfl rfl rfl h
    · rw [if_neg (neT hb20)] at h
      refine WC_cut (fun ρ w' => ∃ (t23 : Bool), ρ 17 = .bool t23 ∧ ρ 5 = .slice d_a12 d_n13 d_c14 ∧ F11_j2 d_n13 d_a12 t23 w' k) ?_ ?_
      · refine WC_region ?_
        refine WL_val gd0 ((o_move (v := .slice d_a12 d_n13 d_c14) (by exact e5_16)) _) rfl ?_
        refine WL_val gd0 ((o_len Try.underlying22 rfl) _) rfl ?_
        refine WL_val gd0 ((o_eql rfl rfl) _) rfl ?_
        refine WL_val gd0 ((o_move (v := .bool (decide ((d_n13 : Int) = 1))) rfl) _) rfl ?_
        refine bsplit (decide ((d_n13 : Int) = 1)) (fun hb49 => ?_) (fun hb49 => ?_)
        · rw [if_pos (of_decide_eq_true hb49)] at h
          refine WL_val (gdY (b := (decide ((d_n13 : Int) = 1))) 21 rfl rfl hb49) ((o_move (v := .slice d_a12 d_n13 d_c14) (by exact e5_16)) _) rfl ?_
          obtain ⟨p52, q53, h⟩ := h
          obtain ⟨l50, u51, h⟩ := h
          refine WL_val (gdY (b := (decide ((d_n13 : Int) = 1))) 21 rfl rfl hb49) ((o_indexAddr1 Try.underlying22 Try.sizeOf5 (by exact (congrArg (fun z => Value.slice z d_n13 d_c14) q53)) rfl l50 u51) _) rfl ?_
          obtain ⟨x54, hc55, h⟩ := h
          refine WL_val (gdY (b := (decide ((d_n13 : Int) = 1))) 21 rfl rfl hb49) (o_load Try.isAgg5 rfl hc55) rfl ?_
          refine WL_val (gdY (b := (decide ((d_n13 : Int) = 1))) 21 rfl rfl hb49) ((o_eql rfl rfl) _) rfl ?_
          refine WL_val gd0 ((o_pickT (v := .bool (decide (x54 = 0))) rfl hb49 rfl) _) rfl ?_
          refine WL_val gd0 ((o_assign (v := .bool (decide (x54 = 0))) rfl) _) rfl ?_
          refine WL_nil ?_
          refine nrm ?_
          exact ⟨_, rfl, e5_16, h⟩
        · rw [if_neg (of_decide_eq_false hb49)] at h
          refine WL_skip (gdN (b := (decide ((d_n13 : Int) = 1))) 21 rfl rfl hb49) rfl ?_
          refine WL_skip (gdN (b := (decide ((d_n13 : Int) = 1))) 21 rfl rfl hb49) rfl ?_
          refine WL_skip (gdN (b := (decide ((d_n13 : Int) = 1))) 21 rfl rfl hb49) rfl ?_
          refine WL_skip (gdN (b := (decide ((d_n13 : Int) = 1))) 21 rfl rfl hb49) rfl ?_
          refine WL_val gd0 ((o_pickF (v := .bool false) rfl hb49 rfl) _) rfl ?_
          refine WL_val gd0 ((o_assign (v := .bool false) rfl) _) rfl ?_
          refine WL_nil ?_
          refine nrm ?_
          exact ⟨_, rfl, e5_16, h⟩
      · rintro ρ w24 ⟨t23, e17_22, e5_21, h⟩
        unfold F11_j2 at h
        refine WC_cond (t := t23) (by exact e17_22) (fun hb25 => ?_) (fun hb25 => ?_)
        · rw [if_pos hb25] at h
          refine WC_seq ?_
          refine WC_region ?_
          refine WL_val gd0 ((o_assign (v := .int .i64 0) rfl) _) rfl ?_
          refine WL_val gd0 ((o_assign (v := .int .i64 0) rfl) _) rfl ?_
          refine WL_val gd0 ((o_assign (v := .bool true) rfl) _) rfl ?_
          refine WL_nil ?_
          refine nrm ?_
          refine WC_ret ?_
          refine rtB ?_
          refine rtT ?_
          refine rtE ?_
          exact gv3 rfl rfl rfl rfl h
        · rw [if_neg (neT hb25)] at h
          refine WC_cut (fun ρ w' => ∃ (t28 : Bool), ρ 27 = .bool t28 ∧ ρ 5 = .slice d_a12 d_n13 d_c14 ∧ F11_j3 d_a12 d_n13 t28 w' k) ?_ ?_
          · refine WC_region ?_
            refine WL_val gd0 ((o_move (v := .slice d_a12 d_n13 d_c14) (by exact e5_21)) _) rfl ?_
            refine WL_val gd0 ((o_len Try.underlying22 rfl) _) rfl ?_
            refine WL_val gd0 ((o_eql rfl rfl) _) rfl ?_
            refine WL_val gd0 ((o_move (v := .bool (decide ((d_n13 : Int) = 3))) rfl) _) rfl ?_
            refine bsplit (decide ((d_n13 : Int) = 3)) (fun hb37 => ?_) (fun hb37 => ?_)
            · rw [if_pos (of_decide_eq_true hb37)] at h
              refine WL_val (gdY (b := (decide ((d_n13 : Int) = 3))) 31 rfl rfl hb37) ((o_move (v := .slice d_a12 d_n13 d_c14) (by exact e5_21)) _) rfl ?_
              obtain ⟨p40, q41, h⟩ := h
              obtain ⟨l38, u39, h⟩ := h
              refine WL_val (gdY (b := (decide ((d_n13 : Int) = 3))) 31 rfl rfl hb37) ((o_indexAddr1 Try.underlying22 Try.sizeOf5 (by exact (congrArg (fun z => Value.slice z d_n13 d_c14) q41)) rfl l38 u39) _) rfl ?_
              obtain ⟨x42, hc43, h⟩ := h
              refine WL_val (gdY (b := (decide ((d_n13 : Int) = 3))) 31 rfl rfl hb37) (o_load Try.isAgg5 rfl hc43) rfl ?_
              refine WL_val (gdY (b := (decide ((d_n13 : Int) = 3))) 31 rfl rfl hb37) ((o_eql rfl rfl) _) rfl ?_
              refine WL_val gd0 ((o_pickT (v := .bool (decide (x42 = 130))) rfl hb37 rfl) _) rfl ?_
              refine WL_val gd0 ((o_move (v := .bool (decide (x42 = 130))) rfl) _) rfl ?_
              refine bsplit (decide (x42 = 130)) (fun hb44 => ?_) (fun hb44 => ?_)
              · rw [if_pos (of_decide_eq_true hb44)] at h
                refine WL_val (gdY (b := (decide (x42 = 130))) 37 rfl rfl hb44) ((o_move (v := .slice d_a12 d_n13 d_c14) (by exact e5_21)) _) rfl ?_
                obtain ⟨l45, u46, h⟩ := h
                refine WL_val (gdY (b := (decide (x42 = 130))) 37 rfl rfl hb44) ((o_indexAddr1 Try.underlying22 Try.sizeOf5 (by exact (congrArg (fun z => Value.slice z d_n13 d_c14) q41)) rfl l45 u46) _) rfl ?_
                obtain ⟨x47, hc48, h⟩ := h
                refine WL_val (gdY (b := (decide (x42 = 130))) 37 rfl rfl hb44) (o_load Try.isAgg5 rfl hc48) rfl ?_
                refine WL_val (gdY (b := (decide (x42 = 130))) 37 rfl rfl hb44) ((o_eql rfl rfl) _) rfl ?_
                refine WL_val gd0 ((o_pickT (v := .bool (decide (x47 = 0))) rfl hb44 rfl) _) rfl ?_
                refine WL_val gd0 ((o_assign (v := .bool (decide (x47 = 0))) rfl) _) rfl ?_
                refine WL_nil ?_
                refine nrm ?_
                exact ⟨_, rfl, e5_21, h⟩
              · rw [if_neg (of_decide_eq_false hb44)] at h
                refine WL_skip (gdN (b := (decide (x42 = 130))) 37 rfl rfl hb44) rfl ?_
                refine WL_skip (gdN (b := (decide (x42 = 130))) 37 rfl rfl hb44) rfl ?_
                refine WL_skip (gdN (b := (decide (x42 = 130))) 37 rfl rfl hb44) rfl ?_
                refine WL_skip (gdN (b := (decide (x42 = 130))) 37 rfl rfl hb44) rfl ?_
                refine WL_val gd0 ((o_pickF (v := .bool false) rfl hb44 rfl) _) rfl ?_
                refine WL_val gd0 ((o_assign (v := .bool false) rfl) _) rfl ?_
                refine WL_nil ?_
                refine nrm ?_
                exact ⟨_, rfl, e5_21, h⟩
            · rw [if_neg (of_decide_eq_false hb37)] at h
              refine WL_skip (gdN (b := (decide ((d_n13 : Int) = 3))) 31 rfl rfl hb37) rfl ?_
              refine WL_skip (gdN (b := (decide ((d_n13 : Int) = 3))) 31 rfl rfl hb37) rfl ?_
              refine WL_skip (gdN (b := (decide ((d_n13 : Int) = 3))) 31 rfl rfl hb37) rfl ?_
              refine WL_skip (gdN (b := (decide ((d_n13 : Int) = 3))) 31 rfl rfl hb37) rfl ?_
              refine WL_val gd0 ((o_pickF (v := .bool false) rfl hb37 rfl) _) rfl ?_
              refine WL_val gd0 ((o_move (v := .bool false) rfl) _) rfl ?_
              refine WL_skip (gdN (b := false) 37 rfl rfl rfl) rfl ?_
              refine WL_skip (gdN (b := false) 37 rfl rfl rfl) rfl ?_
              refine WL_skip (gdN (b := false) 37 rfl rfl rfl) rfl ?_
              refine WL_skip (gdN (b := false) 37 rfl rfl rfl) rfl ?_
              refine WL_val gd0 ((o_pickF (v := .bool false) rfl rfl rfl) _) rfl ?_
              refine WL_val gd0 ((o_assign (v := .bool false) rfl) _) rfl ?_
              refine WL_nil ?_
              refine nrm ?_
              exact ⟨_, rfl, e5_21, h⟩
          · rintro ρ w29 ⟨t28, e27_27, e5_26, h⟩
            unfold F11_j3 at h
            refine WC_cond (t := t28) (by exact e27_27) (fun hb30 => ?_) (fun hb30 => ?_)
            · rw [if_pos hb30] at h
              refine WC_seq ?_
              refine WC_draws [] (.look 0 (.look 1 (.look 2 (.look 3 (.look 4 (.look 5 (.look 6 .nil))))))) Try.mixed (by kernel_rfl) ?_
              refine WQ_val rfl gd0 (o_move (v := .slice d_a12 d_n13 d_c14) (by exact e5_26)) rfl ?_
              obtain ⟨p33, q34, h⟩ := h
              obtain ⟨l31, u32, h⟩ := h
              refine WQ_val rfl gd0 (o_indexAddr1 Try.underlying22 Try.sizeOf5 (by exact (congrArg (fun z => Value.slice z d_n13 d_c14) q34)) rfl l31 u32) rfl ?_
              obtain ⟨x35, hc36, h⟩ := h
              refine WQ_look (fun w => w.cell? (p33.add ((2 : Int).toNat)) = some (.int .u8 x35)) rfl gd0 (fun w hc => (o_load Try.isAgg5 rfl hc)) hc36 rfl ?_
              refine WQ_val rfl gd0 (o_conv Try.underlying5 Try.underlying3 rfl) rfl ?_
              refine WQ_val rfl gd0 (o_assign (v := .int .i64 1) rfl) rfl ?_
              refine WQ_val rfl gd0 (o_assign (v := .int .i64 (IntKind.i64.wrap x35)) rfl) rfl ?_
              refine WQ_val rfl gd0 (o_assign (v := .bool true) rfl) rfl ?_
              refine WQ_nil ?_
              refine nrm ?_
              refine WC_ret ?_
              refine rtB ?_
              refine rtT ?_
              refine rtE ?_
              exact gv3 rfl rfl rfl rfl h
            · rw [if_neg (neT hb30)] at h
              refine WC_skip ?_
              refine nrmB ?_
              refine nrm ?_
              refine WC_seq ?_
              refine WC_region ?_
              refine WL_val gd0 ((o_assign (v := .int .i64 0) rfl) _) rfl ?_
              refine WL_val gd0 ((o_assign (v := .int .i64 0) rfl) _) rfl ?_
              refine WL_val gd0 ((o_assign (v := .bool false) rfl) _) rfl ?_
              refine WL_nil ?_
              refine nrm ?_
              refine WC_ret ?_
              refine rtE ?_
              exact gv3 rfl rfl rfl rfl h

def F12_j3 (p10 : Addr) (t24 : Bool) (w25 : World) (k : Value → World → Prop) : Prop :=
  if t24 = true then
  ∃ (x_a27 : Option Addr) (x_n28 x_c29 : Nat), w25.drew.cell? (p10.add 5) = some (.slice x_a27 x_n28 x_c29) ∧ ∃ (p33 : Addr), x_a27 = some p33 ∧ (0 : Int) ≤ 2 ∧ 2 < (x_n28 : Int) ∧ ∃ (x35 : Int), w25.drew.cell? (p33.add ((2 : Int).toNat)) = some (.int .u8 x35) ∧ k (.tuple #[.int .i64 1, .int .i64 (IntKind.i64.wrap x35), .bool true]) w25.drew
else
  k (.tuple #[.int .i64 0, .int .i64 0, .bool false]) w25
def F12_j2 (p10 : Addr) (t19 : Bool) (w20 : World) (k : Value → World → Prop) : Prop :=
  if t19 = true then
  k (.tuple #[.int .i64 0, .int .i64 0, .bool true]) w20
else
  ∃ (x_a37 : Option Addr) (x_n38 x_c39 : Nat), w20.cell? (p10.add 5) = some (.slice x_a37 x_n38 x_c39) ∧ if (x_n38 : Int) = 3 then
    ∃ (x_a42 : Option Addr) (x_n43 x_c44 : Nat), w20.cell? (p10.add 5) = some (.slice x_a42 x_n43 x_c44) ∧ ∃ (p48 : Addr), x_a42 = some p48 ∧ (0 : Int) ≤ 0 ∧ 0 < (x_n43 : Int) ∧ ∃ (x50 : Int), w20.cell? (p48.add ((0 : Int).toNat)) = some (.int .u8 x50) ∧ if x50 = 130 then
      ∃ (x_a53 : Option Addr) (x_n54 x_c55 : Nat), w20.cell? (p10.add 5) = some (.slice x_a53 x_n54 x_c55) ∧ ∃ (p59 : Addr), x_a53 = some p59 ∧ (0 : Int) ≤ 1 ∧ 1 < (x_n54 : Int) ∧ ∃ (x61 : Int), w20.cell? (p59.add ((1 : Int).toNat)) = some (.int .u8 x61) ∧ F12_j3 p10 (decide (x61 = 0)) w20 k
    else
      F12_j3 p10 false w20 k
  else
    F12_j3 p10 false w20 k
def F12_j1 (p10 : Addr) (t14 : Bool) (w15 : World) (k : Value → World → Prop) : Prop :=
  if t14 = true then
  k (.tuple #[.int .i64 0, .int .i64 0, .bool false]) w15
else
  ∃ (x_a63 : Option Addr) (x_n64 x_c65 : Nat), w15.cell? (p10.add 5) = some (.slice x_a63 x_n64 x_c65) ∧ if (x_n64 : Int) = 1 then
    ∃ (x_a68 : Option Addr) (x_n69 x_c70 : Nat), w15.cell? (p10.add 5) = some (.slice x_a68 x_n69 x_c70) ∧ ∃ (p74 : Addr), x_a68 = some p74 ∧ (0 : Int) ≤ 0 ∧ 0 < (x_n69 : Int) ∧ ∃ (x76 : Int), w15.cell? (p74.add ((0 : Int).toNat)) = some (.int .u8 x76) ∧ F12_j2 p10 (decide (x76 = 0)) w15 k
  else
    F12_j2 p10 false w15 k
/-- spacecraft spacecraftref14.Directive -/
def F12 (f1 : Bool) (f2 : Bool) (f3 : Int) (f4 : Int) (f5 : Int) (f_a6 : Option Addr) (f_n7 : Nat) (f_c8 : Nat) (w9 : World) (k : Value → World → Prop) : Prop :=
  New w9 24 [.bool f1, .bool f2, .int .i64 f3, .int .i64 f4, .int .i64 f5, .slice f_a6 f_n7 f_c8] (fun p10 w11 => ∃ (x78 : Bool), w11.cell? p10 = some (.bool x78) ∧ if (!x78) = true then
  F12_j1 p10 true w11 k
else
  ∃ (x81 : Bool), w11.cell? (p10.add 1) = some (.bool x81) ∧ F12_j1 p10 (!x81) w11 k)
set_option maxRecDepth 100000 in
set_option maxHeartbeats 2000000 in
theorem w12 (f1 : Bool) (f2 : Bool) (f3 : Int) (f4 : Int) (f5 : Int) (f_a6 : Option Addr) (f_n7 : Nat) (f_c8 : Nat) (w9 : World) (k : Value → World → Prop) (h : F12 f1 f2 f3 f4 f5 f_a6 f_n7 f_c8 w9 k) : Does Try.prog 12 #[.agg #[.bool f1, .bool f2, .int .i64 f3, .int .i64 f4, .int .i64 f5, .slice f_a6 f_n7 f_c8]] w9 k := by
  refine enter 47 Try.func12 rfl rfl rfl ?_
  intro ρ hρ
  have e0 := hρ 0 _ rfl
  unfold F12 at h
  refine WC_seq ?_
  refine WC_region ?_
  have h := New.out h
  refine WL_val gd0 (o_box (v := .agg #[.bool f1, .bool f2, .int .i64 f3, .int .i64 f4, .int .i64 f5, .slice f_a6 f_n7 f_c8]) (cs := [.bool f1, .bool f2, .int .i64 f3, .int .i64 f4, .int .i64 f5, .slice f_a6 f_n7 f_c8]) (by exact e0) rfl) rfl ?_
  generalize hp10 : fresh w9 = p10 at h ⊢
  generalize hw11 : push w9 24 [.bool f1, .bool f2, .int .i64 f3, .int .i64 f4, .int .i64 f5, .slice f_a6 f_n7 f_c8] = w11 at h ⊢
  try dsimp only at h
  refine WL_val gd0 ((o_assign (v := .int .i64 0) rfl) _) rfl ?_
  refine WL_val gd0 ((o_assign (v := .int .i64 0) rfl) _) rfl ?_
  refine WL_val gd0 ((o_assign (v := .bool false) rfl) _) rfl ?_
  refine WL_nil ?_
  refine nrm ?_
  refine WC_seq ?_
  refine WC_cut (fun ρ w' => ∃ (t14 : Bool), ρ 12 = .bool t14 ∧ ρ 1 = .pointer (some p10) ∧ F12_j1 p10 t14 w' k) ?_ ?_
  · refine WC_region ?_
    refine WL_val gd0 ((o_fieldAddr0 Try.underlying24 rfl Try.sizeOf4 rfl rfl rfl) _) rfl ?_
    obtain ⟨x78, hc79, h⟩ := h
    refine WL_val gd0 (o_load Try.isAgg4 rfl hc79) rfl ?_
    refine WL_val gd0 ((o_not rfl) _) rfl ?_
    refine WL_val gd0 ((o_move (v := .bool (!x78)) rfl) _) rfl ?_
    refine bsplit (!x78) (fun hb80 => ?_) (fun hb80 => ?_)
    · rw [if_pos hb80] at h
      refine WL_skip (gdN (b := (!x78)) 8 rfl rfl hb80) rfl ?_
      refine WL_skip (gdN (b := (!x78)) 8 rfl rfl hb80) rfl ?_
      refine WL_skip (gdN (b := (!x78)) 8 rfl rfl hb80) rfl ?_
      refine WL_val gd0 ((o_pickT (v := .bool true) rfl hb80 rfl) _) rfl ?_
      refine WL_nil ?_
      refine nrm ?_
      exact ⟨_, rfl, rfl, h⟩
    · rw [if_neg (neT hb80)] at h
      refine WL_val (gdY (b := (!x78)) 8 rfl rfl hb80) ((o_fieldAddr 1 Try.underlying24 rfl Try.sizeOf4 rfl rfl rfl) _) rfl ?_
      obtain ⟨x81, hc82, h⟩ := h
      refine WL_val (gdY (b := (!x78)) 8 rfl rfl hb80) (o_load Try.isAgg4 rfl hc82) rfl ?_
      refine WL_val (gdY (b := (!x78)) 8 rfl rfl hb80) ((o_not rfl) _) rfl ?_
      refine WL_val gd0 ((o_pickF (v := .bool (!x81)) rfl hb80 rfl) _) rfl ?_
      refine WL_nil ?_
      refine nrm ?_
      exact ⟨_, rfl, rfl, h⟩
  · rintro ρ w15 ⟨t14, e12_13, e1_12, h⟩
    unfold F12_j1 at h
    refine WC_cond (t := t14) (by exact e12_13) (fun hb16 => ?_) (fun hb16 => ?_)
    · rw [if_pos hb16] at h
      refine WC_seq ?_
      refine WC_region ?_
      refine WL_val gd0 ((o_assign (v := .int .i64 0) rfl) _) rfl ?_
      refine WL_val gd0 ((o_assign (v := .int .i64 0) rfl) _) rfl ?_
      refine WL_val gd0 ((o_assign (v := .bool false) rfl) _) rfl ?_
      refine WL_nil ?_
      refine nrm ?_
      refine WC_ret ?_
      refine rtT ?_
      refine rtE ?_
      exact gv3 rfl rfl rfl rfl h
    · rw [if_neg (neT hb16)] at h
      refine WC_skip ?_
      refine nrm ?_
      refine WC_seq ?_
      refine WC_cut (fun ρ w' => ∃ (t19 : Bool), ρ 23 = .bool t19 ∧ ρ 1 = .pointer (some p10) ∧ F12_j2 p10 t19 w' k) ?_ ?_
      · refine WC_region ?_
        refine WL_val gd0 ((o_fieldAddr 5 Try.underlying24 rfl Try.sizeOf22 rfl rfl (by exact e1_12)) _) rfl ?_
        obtain ⟨x_a63, x_n64, x_c65, hc66, h⟩ := h
        refine WL_val gd0 (o_load Try.isAgg22 rfl hc66) rfl ?_
        refine WL_val gd0 ((o_len Try.underlying22 rfl) _) rfl ?_
        refine WL_val gd0 ((o_eql rfl rfl) _) rfl ?_
        refine WL_val gd0 ((o_move (v := .bool (decide ((x_n64 : Int) = 1))) rfl) _) rfl ?_
        refine bsplit (decide ((x_n64 : Int) = 1)) (fun hb67 => ?_) (fun hb67 => ?_)
        · rw [if_pos (of_decide_eq_true hb67)] at h
          refine WL_val (gdY (b := (decide ((x_n64 : Int) = 1))) 17 rfl rfl hb67) ((o_fieldAddr 5 Try.underlying24 rfl Try.sizeOf22 rfl rfl (by exact e1_12)) _) rfl ?_
          obtain ⟨x_a68, x_n69, x_c70, hc71, h⟩ := h
          refine WL_val (gdY (b := (decide ((x_n64 : Int) = 1))) 17 rfl rfl hb67) (o_load Try.isAgg22 rfl hc71) rfl ?_
          obtain ⟨p74, q75, h⟩ := h
          obtain ⟨l72, u73, h⟩ := h
          refine WL_val (gdY (b := (decide ((x_n64 : Int) = 1))) 17 rfl rfl hb67) ((o_indexAddr1 Try.underlying22 Try.sizeOf5 (by exact (congrArg (fun z => Value.slice z x_n69 x_c70) q75)) rfl l72 u73) _) rfl ?_
          obtain ⟨x76, hc77, h⟩ := h
          refine WL_val (gdY (b := (decide ((x_n64 : Int) = 1))) 17 rfl rfl hb67) (o_load Try.isAgg5 rfl hc77) rfl ?_
          refine WL_val (gdY (b := (decide ((x_n64 : Int) = 1))) 17 rfl rfl hb67) ((o_eql rfl rfl) _) rfl ?_
          refine WL_val gd0 ((o_pickT (v := .bool (decide (x76 = 0))) rfl hb67 rfl) _) rfl ?_
          refine WL_nil ?_
          refine nrm ?_
          exact ⟨_, rfl, e1_12, h⟩
        · rw [if_neg (of_decide_eq_false hb67)] at h
          refine WL_skip (gdN (b := (decide ((x_n64 : Int) = 1))) 17 rfl rfl hb67) rfl ?_
          refine WL_skip (gdN (b := (decide ((x_n64 : Int) = 1))) 17 rfl rfl hb67) rfl ?_
          refine WL_skip (gdN (b := (decide ((x_n64 : Int) = 1))) 17 rfl rfl hb67) rfl ?_
          refine WL_skip (gdN (b := (decide ((x_n64 : Int) = 1))) 17 rfl rfl hb67) rfl ?_
          refine WL_skip (gdN (b := (decide ((x_n64 : Int) = 1))) 17 rfl rfl hb67) rfl ?_
          refine WL_val gd0 ((o_pickF (v := .bool false) rfl hb67 rfl) _) rfl ?_
          refine WL_nil ?_
          refine nrm ?_
          exact ⟨_, rfl, e1_12, h⟩
      · rintro ρ w20 ⟨t19, e23_18, e1_17, h⟩
        unfold F12_j2 at h
        refine WC_cond (t := t19) (by exact e23_18) (fun hb21 => ?_) (fun hb21 => ?_)
        · rw [if_pos hb21] at h
          refine WC_seq ?_
          refine WC_region ?_
          refine WL_val gd0 ((o_assign (v := .int .i64 0) rfl) _) rfl ?_
          refine WL_val gd0 ((o_assign (v := .int .i64 0) rfl) _) rfl ?_
          refine WL_val gd0 ((o_assign (v := .bool true) rfl) _) rfl ?_
          refine WL_nil ?_
          refine nrm ?_
          refine WC_ret ?_
          refine rtT ?_
          refine rtE ?_
          exact gv3 rfl rfl rfl rfl h
        · rw [if_neg (neT hb21)] at h
          refine WC_skip ?_
          refine nrm ?_
          refine WC_seq ?_
          refine WC_cut (fun ρ w' => ∃ (t24 : Bool), ρ 41 = .bool t24 ∧ ρ 1 = .pointer (some p10) ∧ F12_j3 p10 t24 w' k) ?_ ?_
          · refine WC_region ?_
            refine WL_val gd0 ((o_fieldAddr 5 Try.underlying24 rfl Try.sizeOf22 rfl rfl (by exact e1_17)) _) rfl ?_
            obtain ⟨x_a37, x_n38, x_c39, hc40, h⟩ := h
            refine WL_val gd0 (o_load Try.isAgg22 rfl hc40) rfl ?_
            refine WL_val gd0 ((o_len Try.underlying22 rfl) _) rfl ?_
            refine WL_val gd0 ((o_eql rfl rfl) _) rfl ?_
            refine WL_val gd0 ((o_move (v := .bool (decide ((x_n38 : Int) = 3))) rfl) _) rfl ?_
            refine bsplit (decide ((x_n38 : Int) = 3)) (fun hb41 => ?_) (fun hb41 => ?_)
            · rw [if_pos (of_decide_eq_true hb41)] at h
              refine WL_val (gdY (b := (decide ((x_n38 : Int) = 3))) 28 rfl rfl hb41) ((o_fieldAddr 5 Try.underlying24 rfl Try.sizeOf22 rfl rfl (by exact e1_17)) _) rfl ?_
              obtain ⟨x_a42, x_n43, x_c44, hc45, h⟩ := h
              refine WL_val (gdY (b := (decide ((x_n38 : Int) = 3))) 28 rfl rfl hb41) (o_load Try.isAgg22 rfl hc45) rfl ?_
              obtain ⟨p48, q49, h⟩ := h
              obtain ⟨l46, u47, h⟩ := h
              refine WL_val (gdY (b := (decide ((x_n38 : Int) = 3))) 28 rfl rfl hb41) ((o_indexAddr1 Try.underlying22 Try.sizeOf5 (by exact (congrArg (fun z => Value.slice z x_n43 x_c44) q49)) rfl l46 u47) _) rfl ?_
              obtain ⟨x50, hc51, h⟩ := h
              refine WL_val (gdY (b := (decide ((x_n38 : Int) = 3))) 28 rfl rfl hb41) (o_load Try.isAgg5 rfl hc51) rfl ?_
              refine WL_val (gdY (b := (decide ((x_n38 : Int) = 3))) 28 rfl rfl hb41) ((o_eql rfl rfl) _) rfl ?_
              refine WL_val gd0 ((o_pickT (v := .bool (decide (x50 = 130))) rfl hb41 rfl) _) rfl ?_
              refine WL_val gd0 ((o_move (v := .bool (decide (x50 = 130))) rfl) _) rfl ?_
              refine bsplit (decide (x50 = 130)) (fun hb52 => ?_) (fun hb52 => ?_)
              · rw [if_pos (of_decide_eq_true hb52)] at h
                refine WL_val (gdY (b := (decide (x50 = 130))) 35 rfl rfl hb52) ((o_fieldAddr 5 Try.underlying24 rfl Try.sizeOf22 rfl rfl (by exact e1_17)) _) rfl ?_
                obtain ⟨x_a53, x_n54, x_c55, hc56, h⟩ := h
                refine WL_val (gdY (b := (decide (x50 = 130))) 35 rfl rfl hb52) (o_load Try.isAgg22 rfl hc56) rfl ?_
                obtain ⟨p59, q60, h⟩ := h
                obtain ⟨l57, u58, h⟩ := h
                refine WL_val (gdY (b := (decide (x50 = 130))) 35 rfl rfl hb52) ((o_indexAddr1 Try.underlying22 Try.sizeOf5 (by exact (congrArg (fun z => Value.slice z x_n54 x_c55) q60)) rfl l57 u58) _) rfl ?_
                obtain ⟨x61, hc62, h⟩ := h
                refine WL_val (gdY (b := (decide (x50 = 130))) 35 rfl rfl hb52) (o_load Try.isAgg5 rfl hc62) rfl ?_
                refine WL_val (gdY (b := (decide (x50 = 130))) 35 rfl rfl hb52) ((o_eql rfl rfl) _) rfl ?_
                refine WL_val gd0 ((o_pickT (v := .bool (decide (x61 = 0))) rfl hb52 rfl) _) rfl ?_
                refine WL_nil ?_
                refine nrm ?_
                exact ⟨_, rfl, e1_17, h⟩
              · rw [if_neg (of_decide_eq_false hb52)] at h
                refine WL_skip (gdN (b := (decide (x50 = 130))) 35 rfl rfl hb52) rfl ?_
                refine WL_skip (gdN (b := (decide (x50 = 130))) 35 rfl rfl hb52) rfl ?_
                refine WL_skip (gdN (b := (decide (x50 = 130))) 35 rfl rfl hb52) rfl ?_
                refine WL_skip (gdN (b := (decide (x50 = 130))) 35 rfl rfl hb52) rfl ?_
                refine WL_skip (gdN (b := (decide (x50 = 130))) 35 rfl rfl hb52) rfl ?_
                refine WL_val gd0 ((o_pickF (v := .bool false) rfl hb52 rfl) _) rfl ?_
                refine WL_nil ?_
                refine nrm ?_
                exact ⟨_, rfl, e1_17, h⟩
            · rw [if_neg (of_decide_eq_false hb41)] at h
              refine WL_skip (gdN (b := (decide ((x_n38 : Int) = 3))) 28 rfl rfl hb41) rfl ?_
              refine WL_skip (gdN (b := (decide ((x_n38 : Int) = 3))) 28 rfl rfl hb41) rfl ?_
              refine WL_skip (gdN (b := (decide ((x_n38 : Int) = 3))) 28 rfl rfl hb41) rfl ?_
              refine WL_skip (gdN (b := (decide ((x_n38 : Int) = 3))) 28 rfl rfl hb41) rfl ?_
              refine WL_skip (gdN (b := (decide ((x_n38 : Int) = 3))) 28 rfl rfl hb41) rfl ?_
              refine WL_val gd0 ((o_pickF (v := .bool false) rfl hb41 rfl) _) rfl ?_
              refine WL_val gd0 ((o_move (v := .bool false) rfl) _) rfl ?_
              refine WL_skip (gdN (b := false) 35 rfl rfl rfl) rfl ?_
              refine WL_skip (gdN (b := false) 35 rfl rfl rfl) rfl ?_
              refine WL_skip (gdN (b := false) 35 rfl rfl rfl) rfl ?_
              refine WL_skip (gdN (b := false) 35 rfl rfl rfl) rfl ?_
              refine WL_skip (gdN (b := false) 35 rfl rfl rfl) rfl ?_
              refine WL_val gd0 ((o_pickF (v := .bool false) rfl rfl rfl) _) rfl ?_
              refine WL_nil ?_
              refine nrm ?_
              exact ⟨_, rfl, e1_17, h⟩
          · rintro ρ w25 ⟨t24, e41_23, e1_22, h⟩
            unfold F12_j3 at h
            refine WC_cond (t := t24) (by exact e41_23) (fun hb26 => ?_) (fun hb26 => ?_)
            · rw [if_pos hb26] at h
              refine WC_seq ?_
              refine WC_draws [] (.look 0 (.look 1 (.look 2 (.look 3 (.look 4 (.look 5 (.look 6 (.look 7 .nil)))))))) Try.mixed (by kernel_rfl) ?_
              refine WQ_val rfl gd0 (o_fieldAddr 5 Try.underlying24 rfl Try.sizeOf22 rfl rfl (by exact e1_22)) rfl ?_
              obtain ⟨x_a27, x_n28, x_c29, hc30, h⟩ := h
              refine WQ_look (fun w => w.cell? (p10.add 5) = some (.slice x_a27 x_n28 x_c29)) rfl gd0 (fun w hc => (o_load Try.isAgg22 rfl hc)) hc30 rfl ?_
              obtain ⟨p33, q34, h⟩ := h
              obtain ⟨l31, u32, h⟩ := h
              refine WQ_val rfl gd0 (o_indexAddr1 Try.underlying22 Try.sizeOf5 (by exact (congrArg (fun z => Value.slice z x_n28 x_c29) q34)) rfl l31 u32) rfl ?_
              obtain ⟨x35, hc36, h⟩ := h
              refine WQ_look (fun w => w.cell? (p33.add ((2 : Int).toNat)) = some (.int .u8 x35)) rfl gd0 (fun w hc => (o_load Try.isAgg5 rfl hc)) hc36 rfl ?_
              refine WQ_val rfl gd0 (o_conv Try.underlying5 Try.underlying3 rfl) rfl ?_
              refine WQ_val rfl gd0 (o_assign (v := .int .i64 1) rfl) rfl ?_
              refine WQ_val rfl gd0 (o_assign (v := .int .i64 (IntKind.i64.wrap x35)) rfl) rfl ?_
              refine WQ_val rfl gd0 (o_assign (v := .bool true) rfl) rfl ?_
              refine WQ_nil ?_
              refine nrm ?_
              refine WC_ret ?_
              refine rtT ?_
              refine rtE ?_
              exact gv3 rfl rfl rfl rfl h
            · rw [if_neg (neT hb26)] at h
              refine WC_skip ?_
              refine nrm ?_
              refine WC_seq ?_
              refine WC_region ?_
              refine WL_val gd0 ((o_assign (v := .int .i64 0) rfl) _) rfl ?_
              refine WL_val gd0 ((o_assign (v := .int .i64 0) rfl) _) rfl ?_
              refine WL_val gd0 ((o_assign (v := .bool false) rfl) _) rfl ?_
              refine WL_nil ?_
              refine nrm ?_
              refine WC_ret ?_
              refine rtE ?_
              exact gv3 rfl rfl rfl rfl h

def F13_j2 (p10 : Addr) (t19 : Bool) (w20 : World) (k : Value → World → Prop) : Prop :=
  if t19 = true then
  k (.bool false) w20
else
  ∃ (x_a22 : Option Addr) (x_n23 x_c24 : Nat), w20.cell? (p10.add 5) = some (.slice x_a22 x_n23 x_c24) ∧ if (x_n23 : Int) < 1 then
    k (.bool false) w20
  else
    ∃ (x_a27 : Option Addr) (x_n28 x_c29 : Nat), w20.cell? (p10.add 5) = some (.slice x_a27 x_n28 x_c29) ∧ if 1017 < (x_n28 : Int) then
      k (.bool false) w20
    else
      ∃ (x32 : Bool), w20.cell? p10 = some (.bool x32) ∧ if x32 = true then
        k (.bool true) w20
      else
        ∃ (x35 : Bool), w20.cell? (p10.add 1) = some (.bool x35) ∧ k (.bool (!x35)) w20
def F13_j1 (p10 : Addr) (t14 : Bool) (w15 : World) (k : Value → World → Prop) : Prop :=
  if t14 = true then
  k (.bool false) w15
else
  ∃ (x37 : Int), w15.cell? (p10.add 4) = some (.int .i64 x37) ∧ if x37 < 0 then
    F13_j2 p10 true w15 k
  else
    ∃ (x40 : Int), w15.cell? (p10.add 4) = some (.int .i64 x40) ∧ F13_j2 p10 (decide (255 < x40)) w15 k
def F13_j3 (p10 : Addr) (t44 : Bool) (w45 : World) (k : Value → World → Prop) : Prop :=
  if t44 = true then
  F13_j1 p10 t44 w45 k
else
  ∃ (x47 : Int), w45.cell? (p10.add 3) = some (.int .i64 x47) ∧ if x47 < 0 then
    F13_j1 p10 true w45 k
  else
    ∃ (x50 : Int), w45.cell? (p10.add 3) = some (.int .i64 x50) ∧ F13_j1 p10 (decide (7 < x50)) w45 k
/-- spacecraft tcframe.Valid -/
def F13 (f1 : Bool) (f2 : Bool) (f3 : Int) (f4 : Int) (f5 : Int) (f_a6 : Option Addr) (f_n7 : Nat) (f_c8 : Nat) (w9 : World) (k : Value → World → Prop) : Prop :=
  New w9 24 [.bool f1, .bool f2, .int .i64 f3, .int .i64 f4, .int .i64 f5, .slice f_a6 f_n7 f_c8] (fun p10 w11 => ∃ (x52 : Int), w11.cell? (p10.add 2) = some (.int .i64 x52) ∧ if x52 < 0 then
  F13_j3 p10 true w11 k
else
  ∃ (x55 : Int), w11.cell? (p10.add 2) = some (.int .i64 x55) ∧ F13_j3 p10 (decide (1023 < x55)) w11 k)
set_option maxRecDepth 100000 in
set_option maxHeartbeats 2000000 in
theorem w13 (f1 : Bool) (f2 : Bool) (f3 : Int) (f4 : Int) (f5 : Int) (f_a6 : Option Addr) (f_n7 : Nat) (f_c8 : Nat) (w9 : World) (k : Value → World → Prop) (h : F13 f1 f2 f3 f4 f5 f_a6 f_n7 f_c8 w9 k) : Does Try.prog 13 #[.agg #[.bool f1, .bool f2, .int .i64 f3, .int .i64 f4, .int .i64 f5, .slice f_a6 f_n7 f_c8]] w9 k := by
  refine enter 46 Try.func13 rfl rfl rfl ?_
  intro ρ hρ
  have e0 := hρ 0 _ rfl
  unfold F13 at h
  refine WC_seq ?_
  refine WC_region ?_
  have h := New.out h
  refine WL_val gd0 (o_box (v := .agg #[.bool f1, .bool f2, .int .i64 f3, .int .i64 f4, .int .i64 f5, .slice f_a6 f_n7 f_c8]) (cs := [.bool f1, .bool f2, .int .i64 f3, .int .i64 f4, .int .i64 f5, .slice f_a6 f_n7 f_c8]) (by exact e0) rfl) rfl ?_
  generalize hp10 : fresh w9 = p10 at h ⊢
  generalize hw11 : push w9 24 [.bool f1, .bool f2, .int .i64 f3, .int .i64 f4, .int .i64 f5, .slice f_a6 f_n7 f_c8] = w11 at h ⊢
  try dsimp only at h
  refine WL_val gd0 ((o_assign (v := .bool false) rfl) _) rfl ?_
  refine WL_nil ?_
  refine nrm ?_
  refine WC_seq ?_
  refine WC_block ?_
  refine WC_cut (fun ρ w' => ∃ (t14 : Bool), ρ 3 = .bool t14 ∧ ρ 1 = .pointer (some p10) ∧ F13_j1 p10 t14 w' k) ?_ ?_
  · refine WC_cut (fun ρ w' => ∃ (t44 : Bool), ρ 3 = .bool t44 ∧ ρ 1 = .pointer (some p10) ∧ F13_j3 p10 t44 w' k) ?_ ?_
    · refine WC_region ?_
      refine WL_val gd0 ((o_fieldAddr 2 Try.underlying24 rfl Try.sizeOf3 rfl rfl rfl) _) rfl ?_
      obtain ⟨x52, hc53, h⟩ := h
      refine WL_val gd0 (o_load Try.isAgg3 rfl hc53) rfl ?_
      refine WL_val gd0 ((o_lss rfl rfl) _) rfl ?_
      refine WL_val gd0 ((o_move (v := .bool (decide (x52 < 0))) rfl) _) rfl ?_
      refine bsplit (decide (x52 < 0)) (fun hb54 => ?_) (fun hb54 => ?_)
      · rw [if_pos (of_decide_eq_true hb54)] at h
        refine WL_skip (gdN (b := (decide (x52 < 0))) 7 rfl rfl hb54) rfl ?_
        refine WL_skip (gdN (b := (decide (x52 < 0))) 7 rfl rfl hb54) rfl ?_
        refine WL_skip (gdN (b := (decide (x52 < 0))) 7 rfl rfl hb54) rfl ?_
        refine WL_val gd0 ((o_pickT (v := .bool true) rfl hb54 rfl) _) rfl ?_
        refine WL_val gd0 ((o_assign (v := .bool true) rfl) _) rfl ?_
        refine WL_nil ?_
        refine nrm ?_
        exact ⟨_, rfl, rfl, h⟩
      · rw [if_neg (of_decide_eq_false hb54)] at h
        refine WL_val (gdY (b := (decide (x52 < 0))) 7 rfl rfl hb54) ((o_fieldAddr 2 Try.underlying24 rfl Try.sizeOf3 rfl rfl rfl) _) rfl ?_
        obtain ⟨x55, hc56, h⟩ := h
        refine WL_val (gdY (b := (decide (x52 < 0))) 7 rfl rfl hb54) (o_load Try.isAgg3 rfl hc56) rfl ?_
        refine WL_val (gdY (b := (decide (x52 < 0))) 7 rfl rfl hb54) ((o_gtr rfl rfl) _) rfl ?_
        refine WL_val gd0 ((o_pickF (v := .bool (decide (1023 < x55))) rfl hb54 rfl) _) rfl ?_
        refine WL_val gd0 ((o_assign (v := .bool (decide (1023 < x55))) rfl) _) rfl ?_
        refine WL_nil ?_
        refine nrm ?_
        exact ⟨_, rfl, rfl, h⟩
    · rintro ρ w45 ⟨t44, e3_43, e1_42, h⟩
      unfold F13_j3 at h
      refine WC_cond (t := t44) (by exact e3_43) (fun hb46 => ?_) (fun hb46 => ?_)
      · rw [if_pos hb46] at h
        refine WC_skip ?_
        refine nrm ?_
        exact ⟨_, e3_43, e1_42, h⟩
      · rw [if_neg (neT hb46)] at h
        refine WC_region ?_
        refine WL_val gd0 ((o_fieldAddr 3 Try.underlying24 rfl Try.sizeOf3 rfl rfl (by exact e1_42)) _) rfl ?_
        obtain ⟨x47, hc48, h⟩ := h
        refine WL_val gd0 (o_load Try.isAgg3 rfl hc48) rfl ?_
        refine WL_val gd0 ((o_lss rfl rfl) _) rfl ?_
        refine WL_val gd0 ((o_move (v := .bool (decide (x47 < 0))) rfl) _) rfl ?_
        refine bsplit (decide (x47 < 0)) (fun hb49 => ?_) (fun hb49 => ?_)
        · rw [if_pos (of_decide_eq_true hb49)] at h
          refine WL_skip (gdN (b := (decide (x47 < 0))) 15 rfl rfl hb49) rfl ?_
          refine WL_skip (gdN (b := (decide (x47 < 0))) 15 rfl rfl hb49) rfl ?_
          refine WL_skip (gdN (b := (decide (x47 < 0))) 15 rfl rfl hb49) rfl ?_
          refine WL_val gd0 ((o_pickT (v := .bool true) rfl hb49 rfl) _) rfl ?_
          refine WL_val gd0 ((o_assign (v := .bool true) rfl) _) rfl ?_
          refine WL_nil ?_
          refine nrm ?_
          exact ⟨_, rfl, e1_42, h⟩
        · rw [if_neg (of_decide_eq_false hb49)] at h
          refine WL_val (gdY (b := (decide (x47 < 0))) 15 rfl rfl hb49) ((o_fieldAddr 3 Try.underlying24 rfl Try.sizeOf3 rfl rfl (by exact e1_42)) _) rfl ?_
          obtain ⟨x50, hc51, h⟩ := h
          refine WL_val (gdY (b := (decide (x47 < 0))) 15 rfl rfl hb49) (o_load Try.isAgg3 rfl hc51) rfl ?_
          refine WL_val (gdY (b := (decide (x47 < 0))) 15 rfl rfl hb49) ((o_gtr rfl rfl) _) rfl ?_
          refine WL_val gd0 ((o_pickF (v := .bool (decide (7 < x50))) rfl hb49 rfl) _) rfl ?_
          refine WL_val gd0 ((o_assign (v := .bool (decide (7 < x50))) rfl) _) rfl ?_
          refine WL_nil ?_
          refine nrm ?_
          exact ⟨_, rfl, e1_42, h⟩
  · rintro ρ w15 ⟨t14, e3_13, e1_12, h⟩
    unfold F13_j1 at h
    refine WC_cond (t := t14) (by exact e3_13) (fun hb16 => ?_) (fun hb16 => ?_)
    · rw [if_pos hb16] at h
      refine WC_seq ?_
      refine WC_region ?_
      refine WL_val gd0 ((o_assign (v := .bool false) rfl) _) rfl ?_
      refine WL_nil ?_
      refine nrm ?_
      refine WC_ret ?_
      refine rtB ?_
      refine rtT ?_
      refine rtE ?_
      exact gv1 rfl rfl h
    · rw [if_neg (neT hb16)] at h
      refine WC_seq ?_
      refine WC_cut (fun ρ w' => ∃ (t19 : Bool), ρ 20 = .bool t19 ∧ ρ 1 = .pointer (some p10) ∧ F13_j2 p10 t19 w' k) ?_ ?_
      · refine WC_region ?_
        refine WL_val gd0 ((o_fieldAddr 4 Try.underlying24 rfl Try.sizeOf3 rfl rfl (by exact e1_12)) _) rfl ?_
        obtain ⟨x37, hc38, h⟩ := h
        refine WL_val gd0 (o_load Try.isAgg3 rfl hc38) rfl ?_
        refine WL_val gd0 ((o_lss rfl rfl) _) rfl ?_
        refine WL_val gd0 ((o_move (v := .bool (decide (x37 < 0))) rfl) _) rfl ?_
        refine bsplit (decide (x37 < 0)) (fun hb39 => ?_) (fun hb39 => ?_)
        · rw [if_pos (of_decide_eq_true hb39)] at h
          refine WL_skip (gdN (b := (decide (x37 < 0))) 24 rfl rfl hb39) rfl ?_
          refine WL_skip (gdN (b := (decide (x37 < 0))) 24 rfl rfl hb39) rfl ?_
          refine WL_skip (gdN (b := (decide (x37 < 0))) 24 rfl rfl hb39) rfl ?_
          refine WL_val gd0 ((o_pickT (v := .bool true) rfl hb39 rfl) _) rfl ?_
          refine WL_val gd0 ((o_assign (v := .bool true) rfl) _) rfl ?_
          refine WL_nil ?_
          refine nrm ?_
          exact ⟨_, rfl, e1_12, h⟩
        · rw [if_neg (of_decide_eq_false hb39)] at h
          refine WL_val (gdY (b := (decide (x37 < 0))) 24 rfl rfl hb39) ((o_fieldAddr 4 Try.underlying24 rfl Try.sizeOf3 rfl rfl (by exact e1_12)) _) rfl ?_
          obtain ⟨x40, hc41, h⟩ := h
          refine WL_val (gdY (b := (decide (x37 < 0))) 24 rfl rfl hb39) (o_load Try.isAgg3 rfl hc41) rfl ?_
          refine WL_val (gdY (b := (decide (x37 < 0))) 24 rfl rfl hb39) ((o_gtr rfl rfl) _) rfl ?_
          refine WL_val gd0 ((o_pickF (v := .bool (decide (255 < x40))) rfl hb39 rfl) _) rfl ?_
          refine WL_val gd0 ((o_assign (v := .bool (decide (255 < x40))) rfl) _) rfl ?_
          refine WL_nil ?_
          refine nrm ?_
          exact ⟨_, rfl, e1_12, h⟩
      · rintro ρ w20 ⟨t19, e20_18, e1_17, h⟩
        unfold F13_j2 at h
        refine WC_cond (t := t19) (by exact e20_18) (fun hb21 => ?_) (fun hb21 => ?_)
        · rw [if_pos hb21] at h
          refine WC_skip ?_
          refine nrm ?_
          refine WC_cond (t := t19) (by exact e20_18) (fun _ => ?_) (fun hx => by rw [(hb21 : t19 = true)] at hx; cases hx)
          refine WC_seq ?_
          refine WC_region ?_
          refine WL_val gd0 ((o_assign (v := .bool false) rfl) _) rfl ?_
          refine WL_nil ?_
          refine nrm ?_
          refine WC_ret ?_
          refine rtB ?_
          refine rtT ?_
          refine rtE ?_
          exact gv1 rfl rfl h
        · rw [if_neg (neT hb21)] at h
          refine WC_region ?_
          refine WL_val gd0 ((o_fieldAddr 5 Try.underlying24 rfl Try.sizeOf22 rfl rfl (by exact e1_17)) _) rfl ?_
          obtain ⟨x_a22, x_n23, x_c24, hc25, h⟩ := h
          refine WL_val gd0 (o_load Try.isAgg22 rfl hc25) rfl ?_
          refine WL_val gd0 ((o_len Try.underlying22 rfl) _) rfl ?_
          refine WL_val gd0 ((o_lss rfl rfl) _) rfl ?_
          refine WL_val gd0 ((o_move (v := .bool (decide ((x_n23 : Int) < 1))) rfl) _) rfl ?_
          refine bsplit (decide ((x_n23 : Int) < 1)) (fun hb26 => ?_) (fun hb26 => ?_)
          · rw [if_pos (of_decide_eq_true hb26)] at h
            refine WL_skip (gdN (b := (decide ((x_n23 : Int) < 1))) 33 rfl rfl hb26) rfl ?_
            refine WL_skip (gdN (b := (decide ((x_n23 : Int) < 1))) 33 rfl rfl hb26) rfl ?_
            refine WL_skip (gdN (b := (decide ((x_n23 : Int) < 1))) 33 rfl rfl hb26) rfl ?_
            refine WL_skip (gdN (b := (decide ((x_n23 : Int) < 1))) 33 rfl rfl hb26) rfl ?_
            refine WL_val gd0 ((o_pickT (v := .bool true) rfl hb26 rfl) _) rfl ?_
            refine WL_val gd0 ((o_assign (v := .bool true) rfl) _) rfl ?_
            refine WL_nil ?_
            refine nrm ?_
            refine WC_cond (t := true) rfl (fun _ => ?_) (fun hx => by rw [(rfl : true = true)] at hx; cases hx)
            refine WC_seq ?_
            refine WC_region ?_
            refine WL_val gd0 ((o_assign (v := .bool false) rfl) _) rfl ?_
            refine WL_nil ?_
            refine nrm ?_
            refine WC_ret ?_
            refine rtB ?_
            refine rtT ?_
            refine rtE ?_
            exact gv1 rfl rfl h
          · rw [if_neg (of_decide_eq_false hb26)] at h
            refine WL_val (gdY (b := (decide ((x_n23 : Int) < 1))) 33 rfl rfl hb26) ((o_fieldAddr 5 Try.underlying24 rfl Try.sizeOf22 rfl rfl (by exact e1_17)) _) rfl ?_
            obtain ⟨x_a27, x_n28, x_c29, hc30, h⟩ := h
            refine WL_val (gdY (b := (decide ((x_n23 : Int) < 1))) 33 rfl rfl hb26) (o_load Try.isAgg22 rfl hc30) rfl ?_
            refine WL_val (gdY (b := (decide ((x_n23 : Int) < 1))) 33 rfl rfl hb26) ((o_len Try.underlying22 rfl) _) rfl ?_
            refine WL_val (gdY (b := (decide ((x_n23 : Int) < 1))) 33 rfl rfl hb26) ((o_gtr rfl rfl) _) rfl ?_
            refine WL_val gd0 ((o_pickF (v := .bool (decide (1017 < (x_n28 : Int)))) rfl hb26 rfl) _) rfl ?_
            refine WL_val gd0 ((o_assign (v := .bool (decide (1017 < (x_n28 : Int)))) rfl) _) rfl ?_
            refine WL_nil ?_
            refine nrm ?_
            refine WC_cond (t := (decide (1017 < (x_n28 : Int)))) rfl (fun hb31 => ?_) (fun hb31 => ?_)
            · rw [if_pos (of_decide_eq_true hb31)] at h
              refine WC_seq ?_
              refine WC_region ?_
              refine WL_val gd0 ((o_assign (v := .bool false) rfl) _) rfl ?_
              refine WL_nil ?_
              refine nrm ?_
              refine WC_ret ?_
              refine rtB ?_
              refine rtT ?_
              refine rtE ?_
              exact gv1 rfl rfl h
            · rw [if_neg (of_decide_eq_false hb31)] at h
              refine WC_skip ?_
              refine nrmB ?_
              refine nrm ?_
              refine WC_seq ?_
              refine WC_region ?_
              refine WL_val gd0 ((o_fieldAddr0 Try.underlying24 rfl Try.sizeOf4 rfl rfl (by exact e1_17)) _) rfl ?_
              obtain ⟨x32, hc33, h⟩ := h
              refine WL_val gd0 (o_load Try.isAgg4 rfl hc33) rfl ?_
              refine WL_val gd0 ((o_move (v := .bool x32) rfl) _) rfl ?_
              refine bsplit x32 (fun hb34 => ?_) (fun hb34 => ?_)
              · rw [if_pos hb34] at h
                refine WL_skip (gdN (b := x32) 41 rfl rfl hb34) rfl ?_
                refine WL_skip (gdN (b := x32) 41 rfl rfl hb34) rfl ?_
                refine WL_skip (gdN (b := x32) 41 rfl rfl hb34) rfl ?_
                refine WL_val gd0 ((o_pickT (v := .bool true) rfl hb34 rfl) _) rfl ?_
                refine WL_val gd0 ((o_assign (v := .bool true) rfl) _) rfl ?_
                refine WL_nil ?_
                refine nrm ?_
                refine WC_ret ?_
                refine rtE ?_
                exact gv1 rfl rfl h
              · rw [if_neg (neT hb34)] at h
                refine WL_val (gdY (b := x32) 41 rfl rfl hb34) ((o_fieldAddr 1 Try.underlying24 rfl Try.sizeOf4 rfl rfl (by exact e1_17)) _) rfl ?_
                obtain ⟨x35, hc36, h⟩ := h
                refine WL_val (gdY (b := x32) 41 rfl rfl hb34) (o_load Try.isAgg4 rfl hc36) rfl ?_
                refine WL_val (gdY (b := x32) 41 rfl rfl hb34) ((o_not rfl) _) rfl ?_
                refine WL_val gd0 ((o_pickF (v := .bool (!x35)) rfl hb34 rfl) _) rfl ?_
                refine WL_val gd0 ((o_assign (v := .bool (!x35)) rfl) _) rfl ?_
                refine WL_nil ?_
                refine nrm ?_
                refine WC_ret ?_
                refine rtE ?_
                exact gv1 rfl rfl h

/-- spacecraft spacecraftref14.Valid -/
def F14 (f1 : Bool) (f2 : Bool) (f3 : Int) (f4 : Int) (f5 : Int) (f_a6 : Option Addr) (f_n7 : Nat) (f_c8 : Nat) (w9 : World) (k : Value → World → Prop) : Prop :=
  New w9 24 [.bool f1, .bool f2, .int .i64 f3, .int .i64 f4, .int .i64 f5, .slice f_a6 f_n7 f_c8] (fun p10 w11 => ∃ (x12 : Int), w11.cell? (p10.add 2) = some (.int .i64 x12) ∧ if 0 ≤ x12 then
  ∃ (x15 : Int), w11.cell? (p10.add 2) = some (.int .i64 x15) ∧ if x15 ≤ 1023 then
    ∃ (x18 : Int), w11.cell? (p10.add 3) = some (.int .i64 x18) ∧ if 0 ≤ x18 then
      ∃ (x21 : Int), w11.cell? (p10.add 3) = some (.int .i64 x21) ∧ if x21 ≤ 7 then
        ∃ (x24 : Int), w11.cell? (p10.add 4) = some (.int .i64 x24) ∧ if 0 ≤ x24 then
          ∃ (x27 : Int), w11.cell? (p10.add 4) = some (.int .i64 x27) ∧ if x27 ≤ 255 then
            ∃ (x_a30 : Option Addr) (x_n31 x_c32 : Nat), w11.cell? (p10.add 5) = some (.slice x_a30 x_n31 x_c32) ∧ if 1 ≤ (x_n31 : Int) then
              ∃ (x_a35 : Option Addr) (x_n36 x_c37 : Nat), w11.cell? (p10.add 5) = some (.slice x_a35 x_n36 x_c37) ∧ if (x_n36 : Int) ≤ 1017 then
                ∃ (x40 : Bool), w11.cell? p10 = some (.bool x40) ∧ if x40 = true then
                  k (.bool true) w11
                else
                  ∃ (x43 : Bool), w11.cell? (p10.add 1) = some (.bool x43) ∧ k (.bool (!x43)) w11
              else
                k (.bool false) w11
            else
              k (.bool false) w11
          else
            k (.bool false) w11
        else
          k (.bool false) w11
      else
        k (.bool false) w11
    else
      k (.bool false) w11
  else
    k (.bool false) w11
else
  k (.bool false) w11)
set_option maxRecDepth 100000 in
set_option maxHeartbeats 2000000 in
theorem w14 (f1 : Bool) (f2 : Bool) (f3 : Int) (f4 : Int) (f5 : Int) (f_a6 : Option Addr) (f_n7 : Nat) (f_c8 : Nat) (w9 : World) (k : Value → World → Prop) (h : F14 f1 f2 f3 f4 f5 f_a6 f_n7 f_c8 w9 k) : Does Try.prog 14 #[.agg #[.bool f1, .bool f2, .int .i64 f3, .int .i64 f4, .int .i64 f5, .slice f_a6 f_n7 f_c8]] w9 k := by
  refine enter 52 Try.func14 rfl rfl rfl ?_
  intro ρ hρ
  have e0 := hρ 0 _ rfl
  unfold F14 at h
  refine WC_seq ?_
  refine WC_region ?_
  have h := New.out h
  refine WL_val gd0 (o_box (v := .agg #[.bool f1, .bool f2, .int .i64 f3, .int .i64 f4, .int .i64 f5, .slice f_a6 f_n7 f_c8]) (cs := [.bool f1, .bool f2, .int .i64 f3, .int .i64 f4, .int .i64 f5, .slice f_a6 f_n7 f_c8]) (by exact e0) rfl) rfl ?_
  generalize hp10 : fresh w9 = p10 at h ⊢
  generalize hw11 : push w9 24 [.bool f1, .bool f2, .int .i64 f3, .int .i64 f4, .int .i64 f5, .slice f_a6 f_n7 f_c8] = w11 at h ⊢
  try dsimp only at h
  refine WL_val gd0 ((o_assign (v := .bool false) rfl) _) rfl ?_
  refine WL_nil ?_
  refine nrm ?_
  refine WC_seq ?_
  refine WC_region ?_
  refine WL_val gd0 ((o_fieldAddr 2 Try.underlying24 rfl Try.sizeOf3 rfl rfl rfl) _) rfl ?_
  obtain ⟨x12, hc13, h⟩ := h
  refine WL_val gd0 (o_load Try.isAgg3 rfl hc13) rfl ?_
  refine WL_val gd0 ((o_geq rfl rfl) _) rfl ?_
  refine WL_val gd0 ((o_move (v := .bool (decide (0 ≤ x12))) rfl) _) rfl ?_
  refine bsplit (decide (0 ≤ x12)) (fun hb14 => ?_) (fun hb14 => ?_)
  · rw [if_pos (of_decide_eq_true hb14)] at h
    refine WL_val (gdY (b := (decide (0 ≤ x12))) 6 rfl rfl hb14) ((o_fieldAddr 2 Try.underlying24 rfl Try.sizeOf3 rfl rfl rfl) _) rfl ?_
    obtain ⟨x15, hc16, h⟩ := h
    refine WL_val (gdY (b := (decide (0 ≤ x12))) 6 rfl rfl hb14) (o_load Try.isAgg3 rfl hc16) rfl ?_
    refine WL_val (gdY (b := (decide (0 ≤ x12))) 6 rfl rfl hb14) ((o_leq rfl rfl) _) rfl ?_
    refine WL_val gd0 ((o_pickT (v := .bool (decide (x15 ≤ 1023))) rfl hb14 rfl) _) rfl ?_
    refine WL_val gd0 ((o_move (v := .bool (decide (x15 ≤ 1023))) rfl) _) rfl ?_
    refine bsplit (decide (x15 ≤ 1023)) (fun hb17 => ?_) (fun hb17 => ?_)
    · rw [if_pos (of_decide_eq_true hb17)] at h
      refine WL_val (gdY (b := (decide (x15 ≤ 1023))) 11 rfl rfl hb17) ((o_fieldAddr 3 Try.underlying24 rfl Try.sizeOf3 rfl rfl rfl) _) rfl ?_
      obtain ⟨x18, hc19, h⟩ := h
      refine WL_val (gdY (b := (decide (x15 ≤ 1023))) 11 rfl rfl hb17) (o_load Try.isAgg3 rfl hc19) rfl ?_
      refine WL_val (gdY (b := (decide (x15 ≤ 1023))) 11 rfl rfl hb17) ((o_geq rfl rfl) _) rfl ?_
      refine WL_val gd0 ((o_pickT (v := .bool (decide (0 ≤ x18))) rfl hb17 rfl) _) rfl ?_
      refine WL_val gd0 ((o_move (v := .bool (decide (0 ≤ x18))) rfl) _) rfl ?_
      refine bsplit (decide (0 ≤ x18)) (fun hb20 => ?_) (fun hb20 => ?_)
      · rw [if_pos (of_decide_eq_true hb20)] at h
        refine WL_val (gdY (b := (decide (0 ≤ x18))) 16 rfl rfl hb20) ((o_fieldAddr 3 Try.underlying24 rfl Try.sizeOf3 rfl rfl rfl) _) rfl ?_
        obtain ⟨x21, hc22, h⟩ := h
        refine WL_val (gdY (b := (decide (0 ≤ x18))) 16 rfl rfl hb20) (o_load Try.isAgg3 rfl hc22) rfl ?_
        refine WL_val (gdY (b := (decide (0 ≤ x18))) 16 rfl rfl hb20) ((o_leq rfl rfl) _) rfl ?_
        refine WL_val gd0 ((o_pickT (v := .bool (decide (x21 ≤ 7))) rfl hb20 rfl) _) rfl ?_
        refine WL_val gd0 ((o_move (v := .bool (decide (x21 ≤ 7))) rfl) _) rfl ?_
        refine bsplit (decide (x21 ≤ 7)) (fun hb23 => ?_) (fun hb23 => ?_)
        · rw [if_pos (of_decide_eq_true hb23)] at h
          refine WL_val (gdY (b := (decide (x21 ≤ 7))) 21 rfl rfl hb23) ((o_fieldAddr 4 Try.underlying24 rfl Try.sizeOf3 rfl rfl rfl) _) rfl ?_
          obtain ⟨x24, hc25, h⟩ := h
          refine WL_val (gdY (b := (decide (x21 ≤ 7))) 21 rfl rfl hb23) (o_load Try.isAgg3 rfl hc25) rfl ?_
          refine WL_val (gdY (b := (decide (x21 ≤ 7))) 21 rfl rfl hb23) ((o_geq rfl rfl) _) rfl ?_
          refine WL_val gd0 ((o_pickT (v := .bool (decide (0 ≤ x24))) rfl hb23 rfl) _) rfl ?_
          refine WL_val gd0 ((o_move (v := .bool (decide (0 ≤ x24))) rfl) _) rfl ?_
          refine bsplit (decide (0 ≤ x24)) (fun hb26 => ?_) (fun hb26 => ?_)
          · rw [if_pos (of_decide_eq_true hb26)] at h
            refine WL_val (gdY (b := (decide (0 ≤ x24))) 26 rfl rfl hb26) ((o_fieldAddr 4 Try.underlying24 rfl Try.sizeOf3 rfl rfl rfl) _) rfl ?_
            obtain ⟨x27, hc28, h⟩ := h
            refine WL_val (gdY (b := (decide (0 ≤ x24))) 26 rfl rfl hb26) (o_load Try.isAgg3 rfl hc28) rfl ?_
            refine WL_val (gdY (b := (decide (0 ≤ x24))) 26 rfl rfl hb26) ((o_leq rfl rfl) _) rfl ?_
            refine WL_val gd0 ((o_pickT (v := .bool (decide (x27 ≤ 255))) rfl hb26 rfl) _) rfl ?_
            refine WL_val gd0 ((o_move (v := .bool (decide (x27 ≤ 255))) rfl) _) rfl ?_
            refine bsplit (decide (x27 ≤ 255)) (fun hb29 => ?_) (fun hb29 => ?_)
            · rw [if_pos (of_decide_eq_true hb29)] at h
              refine WL_val (gdY (b := (decide (x27 ≤ 255))) 31 rfl rfl hb29) ((o_fieldAddr 5 Try.underlying24 rfl Try.sizeOf22 rfl rfl rfl) _) rfl ?_
              obtain ⟨x_a30, x_n31, x_c32, hc33, h⟩ := h
              refine WL_val (gdY (b := (decide (x27 ≤ 255))) 31 rfl rfl hb29) (o_load Try.isAgg22 rfl hc33) rfl ?_
              refine WL_val (gdY (b := (decide (x27 ≤ 255))) 31 rfl rfl hb29) ((o_len Try.underlying22 rfl) _) rfl ?_
              refine WL_val (gdY (b := (decide (x27 ≤ 255))) 31 rfl rfl hb29) ((o_geq rfl rfl) _) rfl ?_
              refine WL_val gd0 ((o_pickT (v := .bool (decide (1 ≤ (x_n31 : Int)))) rfl hb29 rfl) _) rfl ?_
              refine WL_val gd0 ((o_move (v := .bool (decide (1 ≤ (x_n31 : Int)))) rfl) _) rfl ?_
              refine bsplit (decide (1 ≤ (x_n31 : Int))) (fun hb34 => ?_) (fun hb34 => ?_)
              · rw [if_pos (of_decide_eq_true hb34)] at h
                refine WL_val (gdY (b := (decide (1 ≤ (x_n31 : Int)))) 37 rfl rfl hb34) ((o_fieldAddr 5 Try.underlying24 rfl Try.sizeOf22 rfl rfl rfl) _) rfl ?_
                obtain ⟨x_a35, x_n36, x_c37, hc38, h⟩ := h
                refine WL_val (gdY (b := (decide (1 ≤ (x_n31 : Int)))) 37 rfl rfl hb34) (o_load Try.isAgg22 rfl hc38) rfl ?_
                refine WL_val (gdY (b := (decide (1 ≤ (x_n31 : Int)))) 37 rfl rfl hb34) ((o_len Try.underlying22 rfl) _) rfl ?_
                refine WL_val (gdY (b := (decide (1 ≤ (x_n31 : Int)))) 37 rfl rfl hb34) ((o_leq rfl rfl) _) rfl ?_
                refine WL_val gd0 ((o_pickT (v := .bool (decide ((x_n36 : Int) ≤ 1017))) rfl hb34 rfl) _) rfl ?_
                refine WL_val gd0 ((o_move (v := .bool (decide ((x_n36 : Int) ≤ 1017))) rfl) _) rfl ?_
                refine bsplit (decide ((x_n36 : Int) ≤ 1017)) (fun hb39 => ?_) (fun hb39 => ?_)
                · rw [if_pos (of_decide_eq_true hb39)] at h
                  refine WL_val (gdY (b := (decide ((x_n36 : Int) ≤ 1017))) 43 rfl rfl hb39) ((o_fieldAddr0 Try.underlying24 rfl Try.sizeOf4 rfl rfl rfl) _) rfl ?_
                  obtain ⟨x40, hc41, h⟩ := h
                  refine WL_val (gdY (b := (decide ((x_n36 : Int) ≤ 1017))) 43 rfl rfl hb39) (o_load Try.isAgg4 rfl hc41) rfl ?_
                  refine WL_val (gdY (b := (decide ((x_n36 : Int) ≤ 1017))) 43 rfl rfl hb39) ((o_move (v := .bool x40) rfl) _) rfl ?_
                  refine bsplit x40 (fun hb42 => ?_) (fun hb42 => ?_)
                  · rw [if_pos hb42] at h
                    refine WL_skip (gdN (b := x40) 46 rfl rfl hb42) rfl ?_
                    refine WL_skip (gdN (b := x40) 46 rfl rfl hb42) rfl ?_
                    refine WL_skip (gdN (b := x40) 46 rfl rfl hb42) rfl ?_
                    refine WL_val (gdY (b := (decide ((x_n36 : Int) ≤ 1017))) 43 rfl rfl hb39) ((o_pickT (v := .bool true) rfl hb42 rfl) _) rfl ?_
                    refine WL_val gd0 ((o_pickT (v := .bool true) rfl hb39 rfl) _) rfl ?_
                    refine WL_val gd0 ((o_assign (v := .bool true) rfl) _) rfl ?_
                    refine WL_nil ?_
                    refine nrm ?_
                    refine WC_ret ?_
                    refine rtE ?_
                    exact gv1 rfl rfl h
                  · rw [if_neg (neT hb42)] at h
                    refine WL_val (gdY (b := x40) 46 rfl rfl hb42) ((o_fieldAddr 1 Try.underlying24 rfl Try.sizeOf4 rfl rfl rfl) _) rfl ?_
                    obtain ⟨x43, hc44, h⟩ := h
                    refine WL_val (gdY (b := x40) 46 rfl rfl hb42) (o_load Try.isAgg4 rfl hc44) rfl ?_
                    refine WL_val (gdY (b := x40) 46 rfl rfl hb42) ((o_not rfl) _) rfl ?_
                    refine WL_val (gdY (b := (decide ((x_n36 : Int) ≤ 1017))) 43 rfl rfl hb39) ((o_pickF (v := .bool (!x43)) rfl hb42 rfl) _) rfl ?_
                    refine WL_val gd0 ((o_pickT (v := .bool (!x43)) rfl hb39 rfl) _) rfl ?_
                    refine WL_val gd0 ((o_assign (v := .bool (!x43)) rfl) _) rfl ?_
                    refine WL_nil ?_
                    refine nrm ?_
                    refine WC_ret ?_
                    refine rtE ?_
                    exact gv1 rfl rfl h
                · rw [if_neg (of_decide_eq_false hb39)] at h
                  refine WL_skip (gdN (b := (decide ((x_n36 : Int) ≤ 1017))) 43 rfl rfl hb39) rfl ?_
                  refine WL_skip (gdN (b := (decide ((x_n36 : Int) ≤ 1017))) 43 rfl rfl hb39) rfl ?_
                  refine WL_skip (gdN (b := (decide ((x_n36 : Int) ≤ 1017))) 43 rfl rfl hb39) rfl ?_
                  refine WL_skip (gdU 46 rfl rfl) rfl ?_
                  refine WL_skip (gdU 46 rfl rfl) rfl ?_
                  refine WL_skip (gdU 46 rfl rfl) rfl ?_
                  refine WL_skip (gdN (b := (decide ((x_n36 : Int) ≤ 1017))) 43 rfl rfl hb39) rfl ?_
                  refine WL_val gd0 ((o_pickF (v := .bool false) rfl hb39 rfl) _) rfl ?_
                  refine WL_val gd0 ((o_assign (v := .bool false) rfl) _) rfl ?_
                  refine WL_nil ?_
                  refine nrm ?_
                  refine WC_ret ?_
                  refine rtE ?_
                  exact gv1 rfl rfl h
              · rw [if_neg (of_decide_eq_false hb34)] at h
                refine WL_skip (gdN (b := (decide (1 ≤ (x_n31 : Int)))) 37 rfl rfl hb34) rfl ?_
                refine WL_skip (gdN (b := (decide (1 ≤ (x_n31 : Int)))) 37 rfl rfl hb34) rfl ?_
                refine WL_skip (gdN (b := (decide (1 ≤ (x_n31 : Int)))) 37 rfl rfl hb34) rfl ?_
                refine WL_skip (gdN (b := (decide (1 ≤ (x_n31 : Int)))) 37 rfl rfl hb34) rfl ?_
                refine WL_val gd0 ((o_pickF (v := .bool false) rfl hb34 rfl) _) rfl ?_
                refine WL_val gd0 ((o_move (v := .bool false) rfl) _) rfl ?_
                refine WL_skip (gdN (b := false) 43 rfl rfl rfl) rfl ?_
                refine WL_skip (gdN (b := false) 43 rfl rfl rfl) rfl ?_
                refine WL_skip (gdN (b := false) 43 rfl rfl rfl) rfl ?_
                refine WL_skip (gdU 46 rfl rfl) rfl ?_
                refine WL_skip (gdU 46 rfl rfl) rfl ?_
                refine WL_skip (gdU 46 rfl rfl) rfl ?_
                refine WL_skip (gdN (b := false) 43 rfl rfl rfl) rfl ?_
                refine WL_val gd0 ((o_pickF (v := .bool false) rfl rfl rfl) _) rfl ?_
                refine WL_val gd0 ((o_assign (v := .bool false) rfl) _) rfl ?_
                refine WL_nil ?_
                refine nrm ?_
                refine WC_ret ?_
                refine rtE ?_
                exact gv1 rfl rfl h
            · rw [if_neg (of_decide_eq_false hb29)] at h
              refine WL_skip (gdN (b := (decide (x27 ≤ 255))) 31 rfl rfl hb29) rfl ?_
              refine WL_skip (gdN (b := (decide (x27 ≤ 255))) 31 rfl rfl hb29) rfl ?_
              refine WL_skip (gdN (b := (decide (x27 ≤ 255))) 31 rfl rfl hb29) rfl ?_
              refine WL_skip (gdN (b := (decide (x27 ≤ 255))) 31 rfl rfl hb29) rfl ?_
              refine WL_val gd0 ((o_pickF (v := .bool false) rfl hb29 rfl) _) rfl ?_
              refine WL_val gd0 ((o_move (v := .bool false) rfl) _) rfl ?_
              refine WL_skip (gdN (b := false) 37 rfl rfl rfl) rfl ?_
              refine WL_skip (gdN (b := false) 37 rfl rfl rfl) rfl ?_
              refine WL_skip (gdN (b := false) 37 rfl rfl rfl) rfl ?_
              refine WL_skip (gdN (b := false) 37 rfl rfl rfl) rfl ?_
              refine WL_val gd0 ((o_pickF (v := .bool false) rfl rfl rfl) _) rfl ?_
              refine WL_val gd0 ((o_move (v := .bool false) rfl) _) rfl ?_
              refine WL_skip (gdN (b := false) 43 rfl rfl rfl) rfl ?_
              refine WL_skip (gdN (b := false) 43 rfl rfl rfl) rfl ?_
              refine WL_skip (gdN (b := false) 43 rfl rfl rfl) rfl ?_
              refine WL_skip (gdU 46 rfl rfl) rfl ?_
              refine WL_skip (gdU 46 rfl rfl) rfl ?_
              refine WL_skip (gdU 46 rfl rfl) rfl ?_
              refine WL_skip (gdN (b := false) 43 rfl rfl rfl) rfl ?_
              refine WL_val gd0 ((o_pickF (v := .bool false) rfl rfl rfl) _) rfl ?_
              refine WL_val gd0 ((o_assign (v := .bool false) rfl) _) rfl ?_
              refine WL_nil ?_
              refine nrm ?_
              refine WC_ret ?_
              refine rtE ?_
              exact gv1 rfl rfl h
          · rw [if_neg (of_decide_eq_false hb26)] at h
            refine WL_skip (gdN (b := (decide (0 ≤ x24))) 26 rfl rfl hb26) rfl ?_
            refine WL_skip (gdN (b := (decide (0 ≤ x24))) 26 rfl rfl hb26) rfl ?_
            refine WL_skip (gdN (b := (decide (0 ≤ x24))) 26 rfl rfl hb26) rfl ?_
            refine WL_val gd0 ((o_pickF (v := .bool false) rfl hb26 rfl) _) rfl ?_
            refine WL_val gd0 ((o_move (v := .bool false) rfl) _) rfl ?_
            refine WL_skip (gdN (b := false) 31 rfl rfl rfl) rfl ?_
            refine WL_skip (gdN (b := false) 31 rfl rfl rfl) rfl ?_
            refine WL_skip (gdN (b := false) 31 rfl rfl rfl) rfl ?_
            refine WL_skip (gdN (b := false) 31 rfl rfl rfl) rfl ?_
            refine WL_val gd0 ((o_pickF (v := .bool false) rfl rfl rfl) _) rfl ?_
            refine WL_val gd0 ((o_move (v := .bool false) rfl) _) rfl ?_
            refine WL_skip (gdN (b := false) 37 rfl rfl rfl) rfl ?_
            refine WL_skip (gdN (b := false) 37 rfl rfl rfl) rfl ?_
            refine WL_skip (gdN (b := false) 37 rfl rfl rfl) rfl ?_
            refine WL_skip (gdN (b := false) 37 rfl rfl rfl) rfl ?_
            refine WL_val gd0 ((o_pickF (v := .bool false) rfl rfl rfl) _) rfl ?_
            refine WL_val gd0 ((o_move (v := .bool false) rfl) _) rfl ?_
            refine WL_skip (gdN (b := false) 43 rfl rfl rfl) rfl ?_
            refine WL_skip (gdN (b := false) 43 rfl rfl rfl) rfl ?_
            refine WL_skip (gdN (b := false) 43 rfl rfl rfl) rfl ?_
            refine WL_skip (gdU 46 rfl rfl) rfl ?_
            refine WL_skip (gdU 46 rfl rfl) rfl ?_
            refine WL_skip (gdU 46 rfl rfl) rfl ?_
            refine WL_skip (gdN (b := false) 43 rfl rfl rfl) rfl ?_
            refine WL_val gd0 ((o_pickF (v := .bool false) rfl rfl rfl) _) rfl ?_
            refine WL_val gd0 ((o_assign (v := .bool false) rfl) _) rfl ?_
            refine WL_nil ?_
            refine nrm ?_
            refine WC_ret ?_
            refine rtE ?_
            exact gv1 rfl rfl h
        · rw [if_neg (of_decide_eq_false hb23)] at h
          refine WL_skip (gdN (b := (decide (x21 ≤ 7))) 21 rfl rfl hb23) rfl ?_
          refine WL_skip (gdN (b := (decide (x21 ≤ 7))) 21 rfl rfl hb23) rfl ?_
          refine WL_skip (gdN (b := (decide (x21 ≤ 7))) 21 rfl rfl hb23) rfl ?_
          refine WL_val gd0 ((o_pickF (v := .bool false) rfl hb23 rfl) _) rfl ?_
          refine WL_val gd0 ((o_move (v := .bool false) rfl) _) rfl ?_
          refine WL_skip (gdN (b := false) 26 rfl rfl rfl) rfl ?_
          refine WL_skip (gdN (b := false) 26 rfl rfl rfl) rfl ?_
          refine WL_skip (gdN (b := false) 26 rfl rfl rfl) rfl ?_
          refine WL_val gd0 ((o_pickF (v := .bool false) rfl rfl rfl) _) rfl ?_
          refine WL_val gd0 ((o_move (v := .bool false) rfl) _) rfl ?_
          refine WL_skip (gdN (b := false) 31 rfl rfl rfl) rfl ?_
          refine WL_skip (gdN (b := false) 31 rfl rfl rfl) rfl ?_
          refine WL_skip (gdN (b := false) 31 rfl rfl rfl) rfl ?_
          refine WL_skip (gdN (b := false) 31 rfl rfl rfl) rfl ?_
          refine WL_val gd0 ((o_pickF (v := .bool false) rfl rfl rfl) _) rfl ?_
          refine WL_val gd0 ((o_move (v := .bool false) rfl) _) rfl ?_
          refine WL_skip (gdN (b := false) 37 rfl rfl rfl) rfl ?_
          refine WL_skip (gdN (b := false) 37 rfl rfl rfl) rfl ?_
          refine WL_skip (gdN (b := false) 37 rfl rfl rfl) rfl ?_
          refine WL_skip (gdN (b := false) 37 rfl rfl rfl) rfl ?_
          refine WL_val gd0 ((o_pickF (v := .bool false) rfl rfl rfl) _) rfl ?_
          refine WL_val gd0 ((o_move (v := .bool false) rfl) _) rfl ?_
          refine WL_skip (gdN (b := false) 43 rfl rfl rfl) rfl ?_
          refine WL_skip (gdN (b := false) 43 rfl rfl rfl) rfl ?_
          refine WL_skip (gdN (b := false) 43 rfl rfl rfl) rfl ?_
          refine WL_skip (gdU 46 rfl rfl) rfl ?_
          refine WL_skip (gdU 46 rfl rfl) rfl ?_
          refine WL_skip (gdU 46 rfl rfl) rfl ?_
          refine WL_skip (gdN (b := false) 43 rfl rfl rfl) rfl ?_
          refine WL_val gd0 ((o_pickF (v := .bool false) rfl rfl rfl) _) rfl ?_
          refine WL_val gd0 ((o_assign (v := .bool false) rfl) _) rfl ?_
          refine WL_nil ?_
          refine nrm ?_
          refine WC_ret ?_
          refine rtE ?_
          exact gv1 rfl rfl h
      · rw [if_neg (of_decide_eq_false hb20)] at h
        refine WL_skip (gdN (b := (decide (0 ≤ x18))) 16 rfl rfl hb20) rfl ?_
        refine WL_skip (gdN (b := (decide (0 ≤ x18))) 16 rfl rfl hb20) rfl ?_
        refine WL_skip (gdN (b := (decide (0 ≤ x18))) 16 rfl rfl hb20) rfl ?_
        refine WL_val gd0 ((o_pickF (v := .bool false) rfl hb20 rfl) _) rfl ?_
        refine WL_val gd0 ((o_move (v := .bool false) rfl) _) rfl ?_
        refine WL_skip (gdN (b := false) 21 rfl rfl rfl) rfl ?_
        refine WL_skip (gdN (b := false) 21 rfl rfl rfl) rfl ?_
        refine WL_skip (gdN (b := false) 21 rfl rfl rfl) rfl ?_
        refine WL_val gd0 ((o_pickF (v := .bool false) rfl rfl rfl) _) rfl ?_
        refine WL_val gd0 ((o_move (v := .bool false) rfl) _) rfl ?_
        refine WL_skip (gdN (b := false) 26 rfl rfl rfl) rfl ?_
        refine WL_skip (gdN (b := false) 26 rfl rfl rfl) rfl ?_
        refine WL_skip (gdN (b := false) 26 rfl rfl rfl) rfl ?_
        refine WL_val gd0 ((o_pickF (v := .bool false) rfl rfl rfl) _) rfl ?_
        refine WL_val gd0 ((o_move (v := .bool false) rfl) _) rfl ?_
        refine WL_skip (gdN (b := false) 31 rfl rfl rfl) rfl ?_
        refine WL_skip (gdN (b := false) 31 rfl rfl rfl) rfl ?_
        refine WL_skip (gdN (b := false) 31 rfl rfl rfl) rfl ?_
        refine WL_skip (gdN (b := false) 31 rfl rfl rfl) rfl ?_
        refine WL_val gd0 ((o_pickF (v := .bool false) rfl rfl rfl) _) rfl ?_
        refine WL_val gd0 ((o_move (v := .bool false) rfl) _) rfl ?_
        refine WL_skip (gdN (b := false) 37 rfl rfl rfl) rfl ?_
        refine WL_skip (gdN (b := false) 37 rfl rfl rfl) rfl ?_
        refine WL_skip (gdN (b := false) 37 rfl rfl rfl) rfl ?_
        refine WL_skip (gdN (b := false) 37 rfl rfl rfl) rfl ?_
        refine WL_val gd0 ((o_pickF (v := .bool false) rfl rfl rfl) _) rfl ?_
        refine WL_val gd0 ((o_move (v := .bool false) rfl) _) rfl ?_
        refine WL_skip (gdN (b := false) 43 rfl rfl rfl) rfl ?_
        refine WL_skip (gdN (b := false) 43 rfl rfl rfl) rfl ?_
        refine WL_skip (gdN (b := false) 43 rfl rfl rfl) rfl ?_
        refine WL_skip (gdU 46 rfl rfl) rfl ?_
        refine WL_skip (gdU 46 rfl rfl) rfl ?_
        refine WL_skip (gdU 46 rfl rfl) rfl ?_
        refine WL_skip (gdN (b := false) 43 rfl rfl rfl) rfl ?_
        refine WL_val gd0 ((o_pickF (v := .bool false) rfl rfl rfl) _) rfl ?_
        refine WL_val gd0 ((o_assign (v := .bool false) rfl) _) rfl ?_
        refine WL_nil ?_
        refine nrm ?_
        refine WC_ret ?_
        refine rtE ?_
        exact gv1 rfl rfl h
    · rw [if_neg (of_decide_eq_false hb17)] at h
      refine WL_skip (gdN (b := (decide (x15 ≤ 1023))) 11 rfl rfl hb17) rfl ?_
      refine WL_skip (gdN (b := (decide (x15 ≤ 1023))) 11 rfl rfl hb17) rfl ?_
      refine WL_skip (gdN (b := (decide (x15 ≤ 1023))) 11 rfl rfl hb17) rfl ?_
      refine WL_val gd0 ((o_pickF (v := .bool false) rfl hb17 rfl) _) rfl ?_
      refine WL_val gd0 ((o_move (v := .bool false) rfl) _) rfl ?_
      refine WL_skip (gdN (b := false) 16 rfl rfl rfl) rfl ?_
      refine WL_skip (gdN (b := false) 16 rfl rfl rfl) rfl ?_
      refine WL_skip (gdN (b := false) 16 rfl rfl rfl) rfl ?_
      refine WL_val gd0 ((o_pickF (v := .bool false) rfl rfl rfl) _) rfl ?_
      refine WL_val gd0 ((o_move (v := .bool false) rfl) _) rfl ?_
      refine WL_skip (gdN (b := false) 21 rfl rfl rfl) rfl ?_
      refine WL_skip (gdN (b := false) 21 rfl rfl rfl) rfl ?_
      refine WL_skip (gdN (b := false) 21 rfl rfl rfl) rfl ?_
      refine WL_val gd0 ((o_pickF (v := .bool false) rfl rfl rfl) _) rfl ?_
      refine WL_val gd0 ((o_move (v := .bool false) rfl) _) rfl ?_
      refine WL_skip (gdN (b := false) 26 rfl rfl rfl) rfl ?_
      refine WL_skip (gdN (b := false) 26 rfl rfl rfl) rfl ?_
      refine WL_skip (gdN (b := false) 26 rfl rfl rfl) rfl ?_
      refine WL_val gd0 ((o_pickF (v := .bool false) rfl rfl rfl) _) rfl ?_
      refine WL_val gd0 ((o_move (v := .bool false) rfl) _) rfl ?_
      refine WL_skip (gdN (b := false) 31 rfl rfl rfl) rfl ?_
      refine WL_skip (gdN (b := false) 31 rfl rfl rfl) rfl ?_
      refine WL_skip (gdN (b := false) 31 rfl rfl rfl) rfl ?_
      refine WL_skip (gdN (b := false) 31 rfl rfl rfl) rfl ?_
      refine WL_val gd0 ((o_pickF (v := .bool false) rfl rfl rfl) _) rfl ?_
      refine WL_val gd0 ((o_move (v := .bool false) rfl) _) rfl ?_
      refine WL_skip (gdN (b := false) 37 rfl rfl rfl) rfl ?_
      refine WL_skip (gdN (b := false) 37 rfl rfl rfl) rfl ?_
      refine WL_skip (gdN (b := false) 37 rfl rfl rfl) rfl ?_
      refine WL_skip (gdN (b := false) 37 rfl rfl rfl) rfl ?_
      refine WL_val gd0 ((o_pickF (v := .bool false) rfl rfl rfl) _) rfl ?_
      refine WL_val gd0 ((o_move (v := .bool false) rfl) _) rfl ?_
      refine WL_skip (gdN (b := false) 43 rfl rfl rfl) rfl ?_
      refine WL_skip (gdN (b := false) 43 rfl rfl rfl) rfl ?_
      refine WL_skip (gdN (b := false) 43 rfl rfl rfl) rfl ?_
      refine WL_skip (gdU 46 rfl rfl) rfl ?_
      refine WL_skip (gdU 46 rfl rfl) rfl ?_
      refine WL_skip (gdU 46 rfl rfl) rfl ?_
      refine WL_skip (gdN (b := false) 43 rfl rfl rfl) rfl ?_
      refine WL_val gd0 ((o_pickF (v := .bool false) rfl rfl rfl) _) rfl ?_
      refine WL_val gd0 ((o_assign (v := .bool false) rfl) _) rfl ?_
      refine WL_nil ?_
      refine nrm ?_
      refine WC_ret ?_
      refine rtE ?_
      exact gv1 rfl rfl h
  · rw [if_neg (of_decide_eq_false hb14)] at h
    refine WL_skip (gdN (b := (decide (0 ≤ x12))) 6 rfl rfl hb14) rfl ?_
    refine WL_skip (gdN (b := (decide (0 ≤ x12))) 6 rfl rfl hb14) rfl ?_
    refine WL_skip (gdN (b := (decide (0 ≤ x12))) 6 rfl rfl hb14) rfl ?_
    refine WL_val gd0 ((o_pickF (v := .bool false) rfl hb14 rfl) _) rfl ?_
    refine WL_val gd0 ((o_move (v := .bool false) rfl) _) rfl ?_
    refine WL_skip (gdN (b := false) 11 rfl rfl rfl) rfl ?_
    refine WL_skip (gdN (b := false) 11 rfl rfl rfl) rfl ?_
    refine WL_skip (gdN (b := false) 11 rfl rfl rfl) rfl ?_
    refine WL_val gd0 ((o_pickF (v := .bool false) rfl rfl rfl) _) rfl ?_
    refine WL_val gd0 ((o_move (v := .bool false) rfl) _) rfl ?_
    refine WL_skip (gdN (b := false) 16 rfl rfl rfl) rfl ?_
    refine WL_skip (gdN (b := false) 16 rfl rfl rfl) rfl ?_
    refine WL_skip (gdN (b := false) 16 rfl rfl rfl) rfl ?_
    refine WL_val gd0 ((o_pickF (v := .bool false) rfl rfl rfl) _) rfl ?_
    refine WL_val gd0 ((o_move (v := .bool false) rfl) _) rfl ?_
    refine WL_skip (gdN (b := false) 21 rfl rfl rfl) rfl ?_
    refine WL_skip (gdN (b := false) 21 rfl rfl rfl) rfl ?_
    refine WL_skip (gdN (b := false) 21 rfl rfl rfl) rfl ?_
    refine WL_val gd0 ((o_pickF (v := .bool false) rfl rfl rfl) _) rfl ?_
    refine WL_val gd0 ((o_move (v := .bool false) rfl) _) rfl ?_
    refine WL_skip (gdN (b := false) 26 rfl rfl rfl) rfl ?_
    refine WL_skip (gdN (b := false) 26 rfl rfl rfl) rfl ?_
    refine WL_skip (gdN (b := false) 26 rfl rfl rfl) rfl ?_
    refine WL_val gd0 ((o_pickF (v := .bool false) rfl rfl rfl) _) rfl ?_
    refine WL_val gd0 ((o_move (v := .bool false) rfl) _) rfl ?_
    refine WL_skip (gdN (b := false) 31 rfl rfl rfl) rfl ?_
    refine WL_skip (gdN (b := false) 31 rfl rfl rfl) rfl ?_
    refine WL_skip (gdN (b := false) 31 rfl rfl rfl) rfl ?_
    refine WL_skip (gdN (b := false) 31 rfl rfl rfl) rfl ?_
    refine WL_val gd0 ((o_pickF (v := .bool false) rfl rfl rfl) _) rfl ?_
    refine WL_val gd0 ((o_move (v := .bool false) rfl) _) rfl ?_
    refine WL_skip (gdN (b := false) 37 rfl rfl rfl) rfl ?_
    refine WL_skip (gdN (b := false) 37 rfl rfl rfl) rfl ?_
    refine WL_skip (gdN (b := false) 37 rfl rfl rfl) rfl ?_
    refine WL_skip (gdN (b := false) 37 rfl rfl rfl) rfl ?_
    refine WL_val gd0 ((o_pickF (v := .bool false) rfl rfl rfl) _) rfl ?_
    refine WL_val gd0 ((o_move (v := .bool false) rfl) _) rfl ?_
    refine WL_skip (gdN (b := false) 43 rfl rfl rfl) rfl ?_
    refine WL_skip (gdN (b := false) 43 rfl rfl rfl) rfl ?_
    refine WL_skip (gdN (b := false) 43 rfl rfl rfl) rfl ?_
    refine WL_skip (gdU 46 rfl rfl) rfl ?_
    refine WL_skip (gdU 46 rfl rfl) rfl ?_
    refine WL_skip (gdU 46 rfl rfl) rfl ?_
    refine WL_skip (gdN (b := false) 43 rfl rfl rfl) rfl ?_
    refine WL_val gd0 ((o_pickF (v := .bool false) rfl rfl rfl) _) rfl ?_
    refine WL_val gd0 ((o_assign (v := .bool false) rfl) _) rfl ?_
    refine WL_nil ?_
    refine nrm ?_
    refine WC_ret ?_
    refine rtE ?_
    exact gv1 rfl rfl h

def F15_j1 (p5 : Addr) (p53 : Addr) (t85 : Bool) (w86 : World) (k : Value → World → Prop) : Prop :=
  if t85 = true then
  PutAll w86 p5 [.bool false, .bool false, .int .i64 0, .int .i64 0, .int .i64 0, .slice none 0 0] (fun w88 => ∃ (r90 r91 : Bool) (r92 r93 r94 : Int) (r_a95 : Option Addr) (r_n96 r_c97 : Nat), Cells w88 p5 0 [.bool r90, .bool r91, .int .i64 r92, .int .i64 r93, .int .i64 r94, .slice r_a95 r_n96 r_c97] ∧ k (.tuple #[.agg #[.bool r90, .bool r91, .int .i64 r92, .int .i64 r93, .int .i64 r94, .slice r_a95 r_n96 r_c97], .int .i64 4]) w88)
else
  ∃ (x99 x100 : Bool) (x101 x102 x103 : Int) (x_a104 : Option Addr) (x_n105 x_c106 : Nat), Cells w86 p53 0 [.bool x99, .bool x100, .int .i64 x101, .int .i64 x102, .int .i64 x103, .slice x_a104 x_n105 x_c106] ∧ PutAll w86 p5 [.bool x99, .bool x100, .int .i64 x101, .int .i64 x102, .int .i64 x103, .slice x_a104 x_n105 x_c106] (fun w108 => ∃ (r110 r111 : Bool) (r112 r113 r114 : Int) (r_a115 : Option Addr) (r_n116 r_c117 : Nat), Cells w108 p5 0 [.bool r110, .bool r111, .int .i64 r112, .int .i64 r113, .int .i64 r114, .slice r_a115 r_n116 r_c117] ∧ k (.tuple #[.agg #[.bool r110, .bool r111, .int .i64 r112, .int .i64 r113, .int .i64 r114, .slice r_a115 r_n116 r_c117], .int .i64 0]) w108)
/-- spacecraft tcframe.Decode -/
def F15 (b_a1 : Option Addr) (b_n2 : Nat) (b_c3 : Nat) (w4 : World) (k : Value → World → Prop) : Prop :=
  New w4 24 [.bool false, .bool false, .int .i64 0, .int .i64 0, .int .i64 0, .slice none 0 0] (fun p5 w6 => if (b_n2 : Int) < 8 then
  PutAll w6 p5 [.bool false, .bool false, .int .i64 0, .int .i64 0, .int .i64 0, .slice none 0 0] (fun w8 => ∃ (r10 r11 : Bool) (r12 r13 r14 : Int) (r_a15 : Option Addr) (r_n16 r_c17 : Nat), Cells w8 p5 0 [.bool r10, .bool r11, .int .i64 r12, .int .i64 r13, .int .i64 r14, .slice r_a15 r_n16 r_c17] ∧ k (.tuple #[.agg #[.bool r10, .bool r11, .int .i64 r12, .int .i64 r13, .int .i64 r14, .slice r_a15 r_n16 r_c17], .int .i64 3]) w8)
else
  if 1024 < (b_n2 : Int) then
    PutAll w6 p5 [.bool false, .bool false, .int .i64 0, .int .i64 0, .int .i64 0, .slice none 0 0] (fun w20 => ∃ (r22 r23 : Bool) (r24 r25 r26 : Int) (r_a27 : Option Addr) (r_n28 r_c29 : Nat), Cells w20 p5 0 [.bool r22, .bool r23, .int .i64 r24, .int .i64 r25, .int .i64 r26, .slice r_a27 r_n28 r_c29] ∧ k (.tuple #[.agg #[.bool r22, .bool r23, .int .i64 r24, .int .i64 r25, .int .i64 r26, .slice r_a27 r_n28 r_c29], .int .i64 6]) w20)
  else
    Does Try.prog 26 #[.slice b_a1 b_n2 b_c3] w6 (fun v w31 => ∃ (x32 : Bool), v = .bool x32 ∧ if (!x32) = true then
      PutAll w31 p5 [.bool false, .bool false, .int .i64 0, .int .i64 0, .int .i64 0, .slice none 0 0] (fun w34 => ∃ (r36 r37 : Bool) (r38 r39 r40 : Int) (r_a41 : Option Addr) (r_n42 r_c43 : Nat), Cells w34 p5 0 [.bool r36, .bool r37, .int .i64 r38, .int .i64 r39, .int .i64 r40, .slice r_a41 r_n42 r_c43] ∧ k (.tuple #[.agg #[.bool r36, .bool r37, .int .i64 r38, .int .i64 r39, .int .i64 r40, .slice r_a41 r_n42 r_c43], .int .i64 5]) w34)
    else
      Does Try.prog 27 #[.slice b_a1 b_n2 b_c3] w31 (fun v w45 => ∃ (r46 : Option Addr), v = .pointer r46 ∧ Does Try.prog 28 #[.pointer r46, .int .i64 2] w45 (fun v w47 => ∃ (version48 : Int), v = .int .u64 version48 ∧ Does Try.prog 28 #[.pointer r46, .int .i64 1] w47 (fun v w49 => ∃ (x50 : Int), v = .int .u64 x50 ∧ Does Try.prog 28 #[.pointer r46, .int .i64 1] w49 (fun v w51 => ∃ (x52 : Int), v = .int .u64 x52 ∧ New w51 24 [.bool false, .bool false, .int .i64 0, .int .i64 0, .int .i64 0, .slice none 0 0] (fun p53 w54 => PutAll w54 p53 [.bool (decide (x50 = 1)), .bool (decide (x52 = 1)), .int .i64 0, .int .i64 0, .int .i64 0, .slice none 0 0] (fun w55 => Does Try.prog 28 #[.pointer r46, .int .i64 2] w55 (fun v w57 => ∃ (spare58 : Int), v = .int .u64 spare58 ∧ Does Try.prog 28 #[.pointer r46, .int .i64 10] w57 (fun v w59 => ∃ (x60 : Int), v = .int .u64 x60 ∧ Does Try.prog 28 #[.pointer r46, .int .i64 6] w59 (fun v w61 => ∃ (x62 : Int), v = .int .u64 x62 ∧ Put w61 (p53.add 2) (.int .i64 (IntKind.i64.wrap x60)) (fun w63 => Put w63 (p53.add 3) (.int .i64 (IntKind.i64.wrap x62)) (fun w65 => Does Try.prog 28 #[.pointer r46, .int .i64 10] w65 (fun v w67 => ∃ (x68 : Int), v = .int .u64 x68 ∧ Does Try.prog 28 #[.pointer r46, .int .i64 8] w67 (fun v w69 => ∃ (x70 : Int), v = .int .u64 x70 ∧ Put w69 (p53.add 4) (.int .i64 (IntKind.i64.wrap x70)) (fun w71 => (0 : Int) ≤ 5 ∧ 5 ≤ (IntKind.i64.wrap ((b_n2 : Int) - 2) : Int) ∧ IntKind.i64.wrap ((b_n2 : Int) - 2) ≤ (b_c3 : Int) ∧ Does Try.prog 29 #[.slice (cutA b_a1 b_c3 ((5 : Int).toNat) 1) ((IntKind.i64.wrap ((b_n2 : Int) - 2)).toNat - (5 : Int).toNat) (b_c3 - (5 : Int).toNat)] w71 (fun v w76 => ∃ (x_a77 : Option Addr) (x_n78 x_c79 : Nat), v = .slice x_a77 x_n78 x_c79 ∧ Put w76 (p53.add 5) (.slice x_a77 x_n78 x_c79) (fun w80 => if version48 ≠ 0 then
        F15_j1 p5 p53 true w80 k
      else
        if spare58 ≠ 0 then
          F15_j1 p5 p53 true w80 k
        else
          if (IntKind.i64.wrap x68) ≠ (IntKind.i64.wrap ((b_n2 : Int) - 1)) then
            F15_j1 p5 p53 true w80 k
          else
            ∃ (x122 x123 : Bool) (x124 x125 x126 : Int) (x_a127 : Option Addr) (x_n128 x_c129 : Nat), Cells w80 p53 0 [.bool x122, .bool x123, .int .i64 x124, .int .i64 x125, .int .i64 x126, .slice x_a127 x_n128 x_c129] ∧ Does Try.prog 13 #[.agg #[.bool x122, .bool x123, .int .i64 x124, .int .i64 x125, .int .i64 x126, .slice x_a127 x_n128 x_c129]] w80 (fun v w131 => ∃ (x132 : Bool), v = .bool x132 ∧ F15_j1 p5 p53 (!x132) w131 k)))))))))))))))))))
set_option maxRecDepth 100000 in
set_option maxHeartbeats 2000000 in
theorem w15 (b_a1 : Option Addr) (b_n2 : Nat) (b_c3 : Nat) (w4 : World) (k : Value → World → Prop) (h : F15 b_a1 b_n2 b_c3 w4 k) : Does Try.prog 15 #[.slice b_a1 b_n2 b_c3] w4 k := by
  refine enter 79 Try.func15 rfl rfl rfl ?_
  intro ρ hρ
  have e0 := hρ 0 _ rfl
  unfold F15 at h
  refine WC_seq ?_
  refine WC_region ?_
  have h := New.out h
  refine WL_val gd0 (o_alloc (z := .agg #[.bool false, .bool false, .int .i64 0, .int .i64 0, .int .i64 0, .slice none 0 0]) (cs := [.bool false, .bool false, .int .i64 0, .int .i64 0, .int .i64 0, .slice none 0 0]) Try.zeroValue24 rfl) rfl ?_
  generalize hp5 : fresh w4 = p5 at h ⊢
  generalize hw6 : push w4 24 [.bool false, .bool false, .int .i64 0, .int .i64 0, .int .i64 0, .slice none 0 0] = w6 at h ⊢
  try dsimp only at h
  refine WL_val gd0 ((o_assign (v := .int .i64 0) rfl) _) rfl ?_
  refine WL_nil ?_
  refine nrm ?_
  refine WC_seq ?_
  refine WC_block ?_
  refine WC_seq ?_
  refine WC_region ?_
  refine WL_val gd0 ((o_move (v := .slice b_a1 b_n2 b_c3) (by exact e0)) _) rfl ?_
  refine WL_val gd0 ((o_len Try.underlying22 rfl) _) rfl ?_
  refine WL_val gd0 ((o_lss rfl rfl) _) rfl ?_
  refine WL_val gd0 ((o_assign (v := .bool (decide ((b_n2 : Int) < 8))) rfl) _) rfl ?_
  refine WL_nil ?_
  refine nrm ?_
  refine WC_cond (t := (decide ((b_n2 : Int) < 8))) rfl (fun hb7 => ?_) (fun hb7 => ?_)
  · rw [if_pos (of_decide_eq_true hb7)] at h
    refine WC_seq ?_
    refine WC_region ?_
    refine WL_val gd0 ((o_build (ps := []) (v := .agg #[.bool false, .bool false, .int .i64 0, .int .i64 0, .int .i64 0, .slice none 0 0]) partNil (fun w => by kernel_rfl)) _) rfl ?_
    obtain ⟨c9, h⟩ := h
    refine WL_act gd0 (o_storeAgg (vs := [.bool false, .bool false, .int .i64 0, .int .i64 0, .int .i64 0, .slice none 0 0]) Try.sizeOf24 rfl rfl rfl c9) ?_
    generalize hw8 : setAll w6 p5 0 [.bool false, .bool false, .int .i64 0, .int .i64 0, .int .i64 0, .slice none 0 0] = w8 at h ⊢
    try dsimp only at h
    refine WL_val gd0 ((o_assign (v := .int .i64 3) rfl) _) rfl ?_
    refine WL_nil ?_
    refine nrm ?_
    refine WC_ret ?_
    refine rtB ?_
    refine rtT ?_
    refine rtE ?_
    obtain ⟨r10, r11, r12, r13, r14, r_a15, r_n16, r_c17, hc18, h⟩ := h
    exact gvC1 (vs := [.bool r10, .bool r11, .int .i64 r12, .int .i64 r13, .int .i64 r14, .slice r_a15 r_n16 r_c17]) rfl Try.isAgg24 Try.sizeOf24 rfl hc18 rfl h
  · rw [if_neg (of_decide_eq_false hb7)] at h
    refine WC_seq ?_
    refine WC_region ?_
    refine WL_val gd0 ((o_move (v := .slice b_a1 b_n2 b_c3) (by exact e0)) _) rfl ?_
    refine WL_val gd0 ((o_len Try.underlying22 rfl) _) rfl ?_
    refine WL_val gd0 ((o_gtr rfl rfl) _) rfl ?_
    refine WL_val gd0 ((o_assign (v := .bool (decide (1024 < (b_n2 : Int)))) rfl) _) rfl ?_
    refine WL_nil ?_
    refine nrm ?_
    refine WC_cond (t := (decide (1024 < (b_n2 : Int)))) rfl (fun hb19 => ?_) (fun hb19 => ?_)
    · rw [if_pos (of_decide_eq_true hb19)] at h
      refine WC_seq ?_
      refine WC_region ?_
      refine WL_val gd0 ((o_build (ps := []) (v := .agg #[.bool false, .bool false, .int .i64 0, .int .i64 0, .int .i64 0, .slice none 0 0]) partNil (fun w => by kernel_rfl)) _) rfl ?_
      obtain ⟨c21, h⟩ := h
      refine WL_act gd0 (o_storeAgg (vs := [.bool false, .bool false, .int .i64 0, .int .i64 0, .int .i64 0, .slice none 0 0]) Try.sizeOf24 rfl rfl rfl c21) ?_
      generalize hw20 : setAll w6 p5 0 [.bool false, .bool false, .int .i64 0, .int .i64 0, .int .i64 0, .slice none 0 0] = w20 at h ⊢
      try dsimp only at h
      refine WL_val gd0 ((o_assign (v := .int .i64 6) rfl) _) rfl ?_
      refine WL_nil ?_
      refine nrm ?_
      refine WC_ret ?_
      refine rtB ?_
      refine rtT ?_
      refine rtE ?_
      obtain ⟨r22, r23, r24, r25, r26, r_a27, r_n28, r_c29, hc30, h⟩ := h
      exact gvC1 (vs := [.bool r22, .bool r23, .int .i64 r24, .int .i64 r25, .int .i64 r26, .slice r_a27 r_n28 r_c29]) rfl Try.isAgg24 Try.sizeOf24 rfl hc30 rfl h
    · rw [if_neg (of_decide_eq_false hb19)] at h
      refine WC_seq ?_
      refine WC_region ?_
      refine WL_val gd0 ((o_move (v := .slice b_a1 b_n2 b_c3) (by exact e0)) _) rfl ?_
      refine WL_call gd0 (o_call Try.call26 (argCons rfl argNil) _) rfl (h.mono ?_)
      rintro _ w31 ⟨x32, rfl, h⟩
      refine WL_val gd0 ((o_not rfl) _) rfl ?_
      refine WL_val gd0 ((o_assign (v := .bool (!x32)) rfl) _) rfl ?_
      refine WL_nil ?_
      refine nrm ?_
      refine WC_cond (t := (!x32)) rfl (fun hb33 => ?_) (fun hb33 => ?_)
      · rw [if_pos hb33] at h
        refine WC_seq ?_
        refine WC_region ?_
        refine WL_val gd0 ((o_build (ps := []) (v := .agg #[.bool false, .bool false, .int .i64 0, .int .i64 0, .int .i64 0, .slice none 0 0]) partNil (fun w => by kernel_rfl)) _) rfl ?_
        obtain ⟨c35, h⟩ := h
        refine WL_act gd0 (o_storeAgg (vs := [.bool false, .bool false, .int .i64 0, .int .i64 0, .int .i64 0, .slice none 0 0]) Try.sizeOf24 rfl rfl rfl c35) ?_
        generalize hw34 : setAll w31 p5 0 [.bool false, .bool false, .int .i64 0, .int .i64 0, .int .i64 0, .slice none 0 0] = w34 at h ⊢
        try dsimp only at h
        refine WL_val gd0 ((o_assign (v := .int .i64 5) rfl) _) rfl ?_
        refine WL_nil ?_
        refine nrm ?_
        refine WC_ret ?_
        refine rtB ?_
        refine rtT ?_
        refine rtE ?_
        obtain ⟨r36, r37, r38, r39, r40, r_a41, r_n42, r_c43, hc44, h⟩ := h
        exact gvC1 (vs := [.bool r36, .bool r37, .int .i64 r38, .int .i64 r39, .int .i64 r40, .slice r_a41 r_n42 r_c43]) rfl Try.isAgg24 Try.sizeOf24 rfl hc44 rfl h
      · rw [if_neg (neT hb33)] at h
        refine WC_skip ?_
        refine nrmB ?_
        refine nrm ?_
        refine WC_seq ?_
        refine WC_region ?_
        refine WL_val gd0 ((o_move (v := .slice b_a1 b_n2 b_c3) (by exact e0)) _) rfl ?_
        refine WL_call gd0 (o_call Try.call27 (argCons rfl argNil) _) rfl (h.mono ?_)
        rintro _ w45 ⟨r46, rfl, h⟩
        refine WL_val gd0 ((o_assign (v := .pointer r46) rfl) _) rfl ?_
        refine WL_nil ?_
        refine nrm ?_
        refine WC_seq ?_
        refine WC_region ?_
        refine WL_val gd0 ((o_move (v := .pointer r46) rfl) _) rfl ?_
        refine WL_call gd0 (o_call Try.call28 (argCons rfl (argCons rfl argNil)) _) rfl (h.mono ?_)
        rintro _ w47 ⟨version48, rfl, h⟩
        refine WL_val gd0 ((o_assign (v := .int .u64 version48) rfl) _) rfl ?_
        refine WL_nil ?_
        refine nrm ?_
        refine WC_seq ?_
        refine WC_region ?_
        refine WL_val gd0 ((o_move (v := .pointer r46) rfl) _) rfl ?_
        refine WL_call gd0 (o_call Try.call28 (argCons rfl (argCons rfl argNil)) _) rfl (h.mono ?_)
        rintro _ w49 ⟨x50, rfl, h⟩
        refine WL_val gd0 ((o_eql rfl rfl) _) rfl ?_
        refine WL_val gd0 ((o_move (v := .pointer r46) rfl) _) rfl ?_
        refine WL_call gd0 (o_call Try.call28 (argCons rfl (argCons rfl argNil)) _) rfl (h.mono ?_)
        rintro _ w51 ⟨x52, rfl, h⟩
        refine WL_val gd0 ((o_eql rfl rfl) _) rfl ?_
        refine WL_val gd0 ((o_build (ps := [(0, .bool (decide (x50 = 1))), (1, .bool (decide (x52 = 1)))]) (v := .agg #[.bool (decide (x50 = 1)), .bool (decide (x52 = 1)), .int .i64 0, .int .i64 0, .int .i64 0, .slice none 0 0]) (partCons rfl (partCons rfl partNil)) (fun w => by kernel_rfl)) _) rfl ?_
        have h := New.out h
        refine WL_val gd0 (o_alloc (z := .agg #[.bool false, .bool false, .int .i64 0, .int .i64 0, .int .i64 0, .slice none 0 0]) (cs := [.bool false, .bool false, .int .i64 0, .int .i64 0, .int .i64 0, .slice none 0 0]) Try.zeroValue24 rfl) rfl ?_
        generalize hp53 : fresh w51 = p53 at h ⊢
        generalize hw54 : push w51 24 [.bool false, .bool false, .int .i64 0, .int .i64 0, .int .i64 0, .slice none 0 0] = w54 at h ⊢
        try dsimp only at h
        obtain ⟨c56, h⟩ := h
        refine WL_act gd0 (o_storeAgg (vs := [.bool (decide (x50 = 1)), .bool (decide (x52 = 1)), .int .i64 0, .int .i64 0, .int .i64 0, .slice none 0 0]) Try.sizeOf24 rfl rfl rfl c56) ?_
        generalize hw55 : setAll w54 p53 0 [.bool (decide (x50 = 1)), .bool (decide (x52 = 1)), .int .i64 0, .int .i64 0, .int .i64 0, .slice none 0 0] = w55 at h ⊢
        try dsimp only at h
        refine WL_nil ?_
        refine nrm ?_
        refine WC_seq ?_
        refine WC_region ?_
        refine WL_val gd0 ((o_move (v := .pointer r46) rfl) _) rfl ?_
        refine WL_call gd0 (o_call Try.call28 (argCons rfl (argCons rfl argNil)) _) rfl (h.mono ?_)
        rintro _ w57 ⟨spare58, rfl, h⟩
        refine WL_val gd0 ((o_assign (v := .int .u64 spare58) rfl) _) rfl ?_
        refine WL_nil ?_
        refine nrm ?_
        refine WC_seq ?_
        refine WC_region ?_
        refine WL_val gd0 ((o_move (v := .pointer r46) rfl) _) rfl ?_
        refine WL_call gd0 (o_call Try.call28 (argCons rfl (argCons rfl argNil)) _) rfl (h.mono ?_)
        rintro _ w59 ⟨x60, rfl, h⟩
        refine WL_val gd0 ((o_conv Try.underlying46 Try.underlying3 rfl) _) rfl ?_
        refine WL_val gd0 ((o_move (v := .pointer r46) rfl) _) rfl ?_
        refine WL_call gd0 (o_call Try.call28 (argCons rfl (argCons rfl argNil)) _) rfl (h.mono ?_)
        rintro _ w61 ⟨x62, rfl, h⟩
        refine WL_val gd0 ((o_conv Try.underlying46 Try.underlying3 rfl) _) rfl ?_
        refine WL_val gd0 ((o_fieldAddr 2 Try.underlying24 rfl Try.sizeOf3 rfl rfl rfl) _) rfl ?_
        obtain ⟨c64, h⟩ := h
        refine WL_act gd0 (o_store (v := .int .i64 (IntKind.i64.wrap x60)) Try.sizeOf3 rfl rfl rfl c64) ?_
        generalize hw63 : World.setCell w61 (p53.add 2) (.int .i64 (IntKind.i64.wrap x60)) = w63 at h ⊢
        try dsimp only at h
        refine WL_val gd0 ((o_fieldAddr 3 Try.underlying24 rfl Try.sizeOf3 rfl rfl rfl) _) rfl ?_
        obtain ⟨c66, h⟩ := h
        refine WL_act gd0 (o_store (v := .int .i64 (IntKind.i64.wrap x62)) Try.sizeOf3 rfl rfl rfl c66) ?_
        generalize hw65 : World.setCell w63 (p53.add 3) (.int .i64 (IntKind.i64.wrap x62)) = w65 at h ⊢
        try dsimp only at h
        refine WL_nil ?_
        refine nrm ?_
        refine WC_seq ?_
        refine WC_region ?_
        refine WL_val gd0 ((o_move (v := .pointer r46) rfl) _) rfl ?_
        refine WL_call gd0 (o_call Try.call28 (argCons rfl (argCons rfl argNil)) _) rfl (h.mono ?_)
        rintro _ w67 ⟨x68, rfl, h⟩
        refine WL_val gd0 ((o_conv Try.underlying46 Try.underlying3 rfl) _) rfl ?_
        refine WL_val gd0 ((o_assign (v := .int .i64 (IntKind.i64.wrap x68)) rfl) _) rfl ?_
        refine WL_nil ?_
        refine nrm ?_
        refine WC_seq ?_
        refine WC_region ?_
        refine WL_val gd0 ((o_move (v := .pointer r46) rfl) _) rfl ?_
        refine WL_call gd0 (o_call Try.call28 (argCons rfl (argCons rfl argNil)) _) rfl (h.mono ?_)
        rintro _ w69 ⟨x70, rfl, h⟩
        refine WL_val gd0 ((o_conv Try.underlying46 Try.underlying3 rfl) _) rfl ?_
        refine WL_val gd0 ((o_fieldAddr 4 Try.underlying24 rfl Try.sizeOf3 rfl rfl rfl) _) rfl ?_
        obtain ⟨c72, h⟩ := h
        refine WL_act gd0 (o_store (v := .int .i64 (IntKind.i64.wrap x70)) Try.sizeOf3 rfl rfl rfl c72) ?_
        generalize hw71 : World.setCell w69 (p53.add 4) (.int .i64 (IntKind.i64.wrap x70)) = w71 at h ⊢
        try dsimp only at h
        refine WL_nil ?_
        refine nrm ?_
        refine WC_seq ?_
        refine WC_region ?_
        refine WL_val gd0 ((o_move (v := .slice b_a1 b_n2 b_c3) (by exact e0)) _) rfl ?_
        refine WL_val gd0 ((o_move (v := .slice b_a1 b_n2 b_c3) (by exact e0)) _) rfl ?_
        refine WL_val gd0 ((o_len Try.underlying22 rfl) _) rfl ?_
        refine WL_val gd0 ((o_sub rfl rfl) _) rfl ?_
        obtain ⟨c73, c74, c75, h⟩ := h
        refine WL_val gd0 ((o_sliceLH Try.underlying22 Try.sizeOf5 rfl rfl rfl c73 c74 c75) _) rfl ?_
        refine WL_call gd0 (o_call Try.call29 (argCons rfl argNil) _) rfl (h.mono ?_)
        rintro _ w76 ⟨x_a77, x_n78, x_c79, rfl, h⟩
        refine WL_val gd0 ((o_fieldAddr 5 Try.underlying24 rfl Try.sizeOf22 rfl rfl rfl) _) rfl ?_
        obtain ⟨c81, h⟩ := h
        refine WL_act gd0 (o_store (v := .slice x_a77 x_n78 x_c79) Try.sizeOf22 rfl rfl rfl c81) ?_
        generalize hw80 : World.setCell w76 (p53.add 5) (.slice x_a77 x_n78 x_c79) = w80 at h ⊢
        try dsimp only at h
        refine WL_nil ?_
        refine nrm ?_
        refine WC_seq ?_
        refine WC_cut (fun ρ w' => ∃ (t85 : Bool), ρ 76 = .bool t85 ∧ ρ 2 = .pointer (some p5) ∧ ρ 6 = .pointer (some p53) ∧ F15_j1 p5 p53 t85 w' k) ?_ ?_
        · refine WC_region ?_
          refine WL_val gd0 ((o_move (v := .int .u64 version48) rfl) _) rfl ?_
          refine WL_val gd0 ((o_neq rfl rfl) _) rfl ?_
          refine WL_val gd0 ((o_move (v := .bool (decide (version48 ≠ 0))) rfl) _) rfl ?_
          refine bsplit (decide (version48 ≠ 0)) (fun hb119 => ?_) (fun hb119 => ?_)
          · rw [if_pos (of_decide_eq_true hb119)] at h
            refine WL_skip (gdN (b := (decide (version48 ≠ 0))) 61 rfl rfl hb119) rfl ?_
            refine WL_skip (gdN (b := (decide (version48 ≠ 0))) 61 rfl rfl hb119) rfl ?_
            refine WL_val gd0 ((o_pickT (v := .bool true) rfl hb119 rfl) _) rfl ?_
            refine WL_val gd0 ((o_move (v := .bool true) rfl) _) rfl ?_
            refine WL_skip (gdN (b := true) 65 rfl rfl rfl) rfl ?_
            refine WL_skip (gdN (b := true) 65 rfl rfl rfl) rfl ?_
            refine WL_skip (gdN (b := true) 65 rfl rfl rfl) rfl ?_
            refine WL_skip (gdN (b := true) 65 rfl rfl rfl) rfl ?_
            refine WL_skip (gdN (b := true) 65 rfl rfl rfl) rfl ?_
            refine WL_val gd0 ((o_pickT (v := .bool true) rfl rfl rfl) _) rfl ?_
            refine WL_val gd0 ((o_move (v := .bool true) rfl) _) rfl ?_
            refine WL_skip (gdN (b := true) 72 rfl rfl rfl) rfl ?_
            refine WL_skip (gdN (b := true) 72 rfl rfl rfl) rfl ?_
            refine WL_skip (gdN (b := true) 72 rfl rfl rfl) rfl ?_
            refine WL_val gd0 ((o_pickT (v := .bool true) rfl rfl rfl) _) rfl ?_
            refine WL_nil ?_
            refine nrm ?_
            exact ⟨_, rfl, rfl, rfl, h⟩
          · rw [if_neg (of_decide_eq_false hb119)] at h
            refine WL_val (gdY (b := (decide (version48 ≠ 0))) 61 rfl rfl hb119) ((o_move (v := .int .u64 spare58) rfl) _) rfl ?_
            refine WL_val (gdY (b := (decide (version48 ≠ 0))) 61 rfl rfl hb119) ((o_neq rfl rfl) _) rfl ?_
            refine WL_val gd0 ((o_pickF (v := .bool (decide (spare58 ≠ 0))) rfl hb119 rfl) _) rfl ?_
            refine WL_val gd0 ((o_move (v := .bool (decide (spare58 ≠ 0))) rfl) _) rfl ?_
            refine bsplit (decide (spare58 ≠ 0)) (fun hb120 => ?_) (fun hb120 => ?_)
            · rw [if_pos (of_decide_eq_true hb120)] at h
              refine WL_skip (gdN (b := (decide (spare58 ≠ 0))) 65 rfl rfl hb120) rfl ?_
              refine WL_skip (gdN (b := (decide (spare58 ≠ 0))) 65 rfl rfl hb120) rfl ?_
              refine WL_skip (gdN (b := (decide (spare58 ≠ 0))) 65 rfl rfl hb120) rfl ?_
              refine WL_skip (gdN (b := (decide (spare58 ≠ 0))) 65 rfl rfl hb120) rfl ?_
              refine WL_skip (gdN (b := (decide (spare58 ≠ 0))) 65 rfl rfl hb120) rfl ?_
              refine WL_val gd0 ((o_pickT (v := .bool true) rfl hb120 rfl) _) rfl ?_
              refine WL_val gd0 ((o_move (v := .bool true) rfl) _) rfl ?_
              refine WL_skip (gdN (b := true) 72 rfl rfl rfl) rfl ?_
              refine WL_skip (gdN (b := true) 72 rfl rfl rfl) rfl ?_
              refine WL_skip (gdN (b := true) 72 rfl rfl rfl) rfl ?_
              refine WL_val gd0 ((o_pickT (v := .bool true) rfl rfl rfl) _) rfl ?_
              refine WL_nil ?_
              refine nrm ?_
              exact ⟨_, rfl, rfl, rfl, h⟩
            · rw [if_neg (of_decide_eq_false hb120)] at h
              refine WL_val (gdY (b := (decide (spare58 ≠ 0))) 65 rfl rfl hb120) ((o_move (v := .int .i64 (IntKind.i64.wrap x68)) rfl) _) rfl ?_
              refine WL_val (gdY (b := (decide (spare58 ≠ 0))) 65 rfl rfl hb120) ((o_move (v := .slice b_a1 b_n2 b_c3) (by exact e0)) _) rfl ?_
              refine WL_val (gdY (b := (decide (spare58 ≠ 0))) 65 rfl rfl hb120) ((o_len Try.underlying22 rfl) _) rfl ?_
              refine WL_val (gdY (b := (decide (spare58 ≠ 0))) 65 rfl rfl hb120) ((o_sub rfl rfl) _) rfl ?_
              refine WL_val (gdY (b := (decide (spare58 ≠ 0))) 65 rfl rfl hb120) ((o_neq rfl rfl) _) rfl ?_
              refine WL_val gd0 ((o_pickF (v := .bool (decide ((IntKind.i64.wrap x68) ≠ (IntKind.i64.wrap ((b_n2 : Int) - 1))))) rfl hb120 rfl) _) rfl ?_
              refine WL_val gd0 ((o_move (v := .bool (decide ((IntKind.i64.wrap x68) ≠ (IntKind.i64.wrap ((b_n2 : Int) - 1))))) rfl) _) rfl ?_
              refine bsplit (decide ((IntKind.i64.wrap x68) ≠ (IntKind.i64.wrap ((b_n2 : Int) - 1)))) (fun hb121 => ?_) (fun hb121 => ?_)
              · rw [if_pos (of_decide_eq_true hb121)] at h
                refine WL_skip (gdN (b := (decide ((IntKind.i64.wrap x68) ≠ (IntKind.i64.wrap ((b_n2 : Int) - 1))))) 72 rfl rfl hb121) rfl ?_
                refine WL_skip (gdN (b := (decide ((IntKind.i64.wrap x68) ≠ (IntKind.i64.wrap ((b_n2 : Int) - 1))))) 72 rfl rfl hb121) rfl ?_
                refine WL_skip (gdN (b := (decide ((IntKind.i64.wrap x68) ≠ (IntKind.i64.wrap ((b_n2 : Int) - 1))))) 72 rfl rfl hb121) rfl ?_
                refine WL_val gd0 ((o_pickT (v := .bool true) rfl hb121 rfl) _) rfl ?_
                refine WL_nil ?_
                refine nrm ?_
                exact ⟨_, rfl, rfl, rfl, h⟩
              · rw [if_neg (of_decide_eq_false hb121)] at h
                obtain ⟨x122, x123, x124, x125, x126, x_a127, x_n128, x_c129, hc130, h⟩ := h
                refine WL_val (gdY (b := (decide ((IntKind.i64.wrap x68) ≠ (IntKind.i64.wrap ((b_n2 : Int) - 1))))) 72 rfl rfl hb121) (o_loadAgg (vs := [.bool x122, .bool x123, .int .i64 x124, .int .i64 x125, .int .i64 x126, .slice x_a127 x_n128 x_c129]) Try.isAgg24 Try.sizeOf24 rfl hc130) rfl ?_
                refine WL_call (gdY (b := (decide ((IntKind.i64.wrap x68) ≠ (IntKind.i64.wrap ((b_n2 : Int) - 1))))) 72 rfl rfl hb121) (o_call Try.call13 (argCons rfl argNil) _) rfl (h.mono ?_)
                rintro _ w131 ⟨x132, rfl, h⟩
                refine WL_val (gdY (b := (decide ((IntKind.i64.wrap x68) ≠ (IntKind.i64.wrap ((b_n2 : Int) - 1))))) 72 rfl rfl hb121) ((o_not rfl) _) rfl ?_
                refine WL_val gd0 ((o_pickF (v := .bool (!x132)) rfl hb121 rfl) _) rfl ?_
                refine WL_nil ?_
                refine nrm ?_
                exact ⟨_, rfl, rfl, rfl, h⟩
        · rintro ρ w86 ⟨t85, e76_84, e2_82, e6_83, h⟩
          unfold F15_j1 at h
          refine WC_cond (t := t85) (by exact e76_84) (fun hb87 => ?_) (fun hb87 => ?_)
          · rw [if_pos hb87] at h
            refine WC_seq ?_
            refine WC_region ?_
            refine WL_val gd0 ((o_build (ps := []) (v := .agg #[.bool false, .bool false, .int .i64 0, .int .i64 0, .int .i64 0, .slice none 0 0]) partNil (fun w => by kernel_rfl)) _) rfl ?_
            obtain ⟨c89, h⟩ := h
            refine WL_act gd0 (o_storeAgg (vs := [.bool false, .bool false, .int .i64 0, .int .i64 0, .int .i64 0, .slice none 0 0]) Try.sizeOf24 (by exact e2_82) rfl rfl c89) ?_
            generalize hw88 : setAll w86 p5 0 [.bool false, .bool false, .int .i64 0, .int .i64 0, .int .i64 0, .slice none 0 0] = w88 at h ⊢
            try dsimp only at h
            refine WL_val gd0 ((o_assign (v := .int .i64 4) rfl) _) rfl ?_
            refine WL_nil ?_
            refine nrm ?_
            refine WC_ret ?_
            refine rtT ?_
            refine rtE ?_
            obtain ⟨r90, r91, r92, r93, r94, r_a95, r_n96, r_c97, hc98, h⟩ := h
            exact gvC1 (vs := [.bool r90, .bool r91, .int .i64 r92, .int .i64 r93, .int .i64 r94, .slice r_a95 r_n96 r_c97]) rfl Try.isAgg24 Try.sizeOf24 (by exact e2_82) hc98 rfl h
          · rw [if_neg (neT hb87)] at h
            refine WC_skip ?_
            refine nrm ?_
            refine WC_seq ?_
            refine WC_region ?_
            obtain ⟨x99, x100, x101, x102, x103, x_a104, x_n105, x_c106, hc107, h⟩ := h
            refine WL_val gd0 (o_loadAgg (vs := [.bool x99, .bool x100, .int .i64 x101, .int .i64 x102, .int .i64 x103, .slice x_a104 x_n105 x_c106]) Try.isAgg24 Try.sizeOf24 (by exact e6_83) hc107) rfl ?_
            obtain ⟨c109, h⟩ := h
            refine WL_act gd0 (o_storeAgg (vs := [.bool x99, .bool x100, .int .i64 x101, .int .i64 x102, .int .i64 x103, .slice x_a104 x_n105 x_c106]) Try.sizeOf24 (by exact e2_82) rfl rfl c109) ?_
            generalize hw108 : setAll w86 p5 0 [.bool x99, .bool x100, .int .i64 x101, .int .i64 x102, .int .i64 x103, .slice x_a104 x_n105 x_c106] = w108 at h ⊢
            try dsimp only at h
            refine WL_val gd0 ((o_assign (v := .int .i64 0) rfl) _) rfl ?_
            refine WL_nil ?_
            refine nrm ?_
            refine WC_ret ?_
            refine rtE ?_
            obtain ⟨r110, r111, r112, r113, r114, r_a115, r_n116, r_c117, hc118, h⟩ := h
            exact gvC1 (vs := [.bool r110, .bool r111, .int .i64 r112, .int .i64 r113, .int .i64 r114, .slice r_a115 r_n116 r_c117]) rfl Try.isAgg24 Try.sizeOf24 (by exact e2_82) hc118 rfl h


end Go.Proofs.Ytdbckjadafpenaa
