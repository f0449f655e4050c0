/-
  The forms of the functions, and their walks: written by a program of this claim (gen.py) off the elaborated translation.
-/
import Derived.Test.YtpioadkiomcdlaaProg
import Derived.Test.YtpioadkiomcdlaaBase
import Derived.KernelRfl
import Derived.Test.YtpioadkiomcdlaaFormsP0
namespace Go.Proofs.Ytpioadkiomcdlaa
open Go Go.Sh Go.Proofs
set_option linter.unusedVariables false
/-- spacecraft spacecraftref18.Same -/
def F15 (a1 : Int) (a2 : Int) (a3 : Int) (a4 : Int) (a5 : Int) (a_a6 : Option Addr) (a_n7 : Nat) (a_c8 : Nat) (a9 : Int) (a10 : Bool) (a11 : Bool) (a12 : Bool) (a13 : Int) (a14 : Int) (b15 : Int) (b16 : Int) (b17 : Int) (b18 : Int) (b19 : Int) (b_a20 : Option Addr) (b_n21 : Nat) (b_c22 : Nat) (b23 : Int) (b24 : Bool) (b25 : Bool) (b26 : Bool) (b27 : Int) (b28 : Int) (w29 : World) (k : Value → World → Prop) : Prop :=
  New w29 26 [.int .i64 a1, .int .i64 a2, .int .i64 a3, .int .i64 a4, .int .i64 a5, .slice a_a6 a_n7 a_c8, .int .i64 a9, .bool a10, .bool a11, .bool a12, .int .i64 a13, .int .i64 a14] (fun p30 w31 => New w31 26 [.int .i64 b15, .int .i64 b16, .int .i64 b17, .int .i64 b18, .int .i64 b19, .slice b_a20 b_n21 b_c22, .int .i64 b23, .bool b24, .bool b25, .bool b26, .int .i64 b27, .int .i64 b28] (fun p32 w33 => ∃ (x34 : Int), w33.cell? p30 = some (.int .i64 x34) ∧ ∃ (x36 : Int), w33.cell? p32 = some (.int .i64 x36) ∧ if x34 = x36 then
  ∃ (x39 : Int), w33.cell? (p30.add 1) = some (.int .i64 x39) ∧ ∃ (x41 : Int), w33.cell? (p32.add 1) = some (.int .i64 x41) ∧ if x39 = x41 then
    ∃ (x44 : Int), w33.cell? (p30.add 2) = some (.int .i64 x44) ∧ ∃ (x46 : Int), w33.cell? (p32.add 2) = some (.int .i64 x46) ∧ if x44 = x46 then
      ∃ (x49 : Int), w33.cell? (p30.add 3) = some (.int .i64 x49) ∧ ∃ (x51 : Int), w33.cell? (p32.add 3) = some (.int .i64 x51) ∧ if x49 = x51 then
        ∃ (x54 : Int), w33.cell? (p30.add 4) = some (.int .i64 x54) ∧ ∃ (x56 : Int), w33.cell? (p32.add 4) = some (.int .i64 x56) ∧ if x54 = x56 then
          ∃ (x59 : Int) (x60 x61 x62 : Bool) (x63 x64 : Int), Cells w33 (p30.add 6) 0 [.int .i64 x59, .bool x60, .bool x61, .bool x62, .int .i64 x63, .int .i64 x64] ∧ ∃ (x66 : Int) (x67 x68 x69 : Bool) (x70 x71 : Int), Cells w33 (p32.add 6) 0 [.int .i64 x66, .bool x67, .bool x68, .bool x69, .int .i64 x70, .int .i64 x71] ∧ ∃ (eq73 : Bool), (∀ w d, (Op.equalIn (d + 5) 24 (.agg #[.int .i64 x59, .bool x60, .bool x61, .bool x62, .int .i64 x63, .int .i64 x64]) (.agg #[.int .i64 x66, .bool x67, .bool x68, .bool x69, .int .i64 x70, .int .i64 x71])).run Try.prog w = .ok eq73 w) ∧ if eq73 = true then
            ∃ (x_a76 : Option Addr) (x_n77 x_c78 : Nat), w33.cell? (p30.add 5) = some (.slice x_a76 x_n77 x_c78) ∧ ∃ (s80 : ByteArray), (Conv.bytesToString (.slice x_a76 x_n77 x_c78)).run Try.prog w33 = .ok (.string s80) w33 ∧ ∃ (x_a82 : Option Addr) (x_n83 x_c84 : Nat), w33.cell? (p32.add 5) = some (.slice x_a82 x_n83 x_c84) ∧ ∃ (s86 : ByteArray), (Conv.bytesToString (.slice x_a82 x_n83 x_c84)).run Try.prog w33 = .ok (.string s86) w33 ∧ k (.bool (s80.toList == s86.toList)) w33
          else
            k (.bool false) w33
        else
          k (.bool false) w33
      else
        k (.bool false) w33
    else
      k (.bool false) w33
  else
    k (.bool false) w33
else
  k (.bool false) w33))
set_option maxRecDepth 100000 in
set_option maxHeartbeats 2000000 in
theorem w15 (a1 : Int) (a2 : Int) (a3 : Int) (a4 : Int) (a5 : Int) (a_a6 : Option Addr) (a_n7 : Nat) (a_c8 : Nat) (a9 : Int) (a10 : Bool) (a11 : Bool) (a12 : Bool) (a13 : Int) (a14 : Int) (b15 : Int) (b16 : Int) (b17 : Int) (b18 : Int) (b19 : Int) (b_a20 : Option Addr) (b_n21 : Nat) (b_c22 : Nat) (b23 : Int) (b24 : Bool) (b25 : Bool) (b26 : Bool) (b27 : Int) (b28 : Int) (w29 : World) (k : Value → World → Prop) (h : F15 a1 a2 a3 a4 a5 a_a6 a_n7 a_c8 a9 a10 a11 a12 a13 a14 b15 b16 b17 b18 b19 b_a20 b_n21 b_c22 b23 b24 b25 b26 b27 b28 w29 k) : Does Try.prog 15 #[.agg #[.int .i64 a1, .int .i64 a2, .int .i64 a3, .int .i64 a4, .int .i64 a5, .slice a_a6 a_n7 a_c8, .int .i64 a9, .bool a10, .bool a11, .bool a12, .int .i64 a13, .int .i64 a14], .agg #[.int .i64 b15, .int .i64 b16, .int .i64 b17, .int .i64 b18, .int .i64 b19, .slice b_a20 b_n21 b_c22, .int .i64 b23, .bool b24, .bool b25, .bool b26, .int .i64 b27, .int .i64 b28]] w29 k := by
  refine enter 54 Try.func15 rfl rfl rfl ?_
  intro ρ hρ
  have e0 := hρ 0 _ rfl
  have e1 := hρ 1 _ rfl
  unfold F15 at h
  refine WC_seq ?_
  refine WC_region ?_
  have h := New.out h
  refine WL_val gd0 (o_box (v := .agg #[.int .i64 a1, .int .i64 a2, .int .i64 a3, .int .i64 a4, .int .i64 a5, .slice a_a6 a_n7 a_c8, .int .i64 a9, .bool a10, .bool a11, .bool a12, .int .i64 a13, .int .i64 a14]) (cs := [.int .i64 a1, .int .i64 a2, .int .i64 a3, .int .i64 a4, .int .i64 a5, .slice a_a6 a_n7 a_c8, .int .i64 a9, .bool a10, .bool a11, .bool a12, .int .i64 a13, .int .i64 a14]) (by exact e0) rfl) rfl ?_
  generalize hp30 : fresh w29 = p30 at h ⊢
  generalize hw31 : push w29 26 [.int .i64 a1, .int .i64 a2, .int .i64 a3, .int .i64 a4, .int .i64 a5, .slice a_a6 a_n7 a_c8, .int .i64 a9, .bool a10, .bool a11, .bool a12, .int .i64 a13, .int .i64 a14] = w31 at h ⊢
  try dsimp only at h
  have h := New.out h
  refine WL_val gd0 (o_box (v := .agg #[.int .i64 b15, .int .i64 b16, .int .i64 b17, .int .i64 b18, .int .i64 b19, .slice b_a20 b_n21 b_c22, .int .i64 b23, .bool b24, .bool b25, .bool b26, .int .i64 b27, .int .i64 b28]) (cs := [.int .i64 b15, .int .i64 b16, .int .i64 b17, .int .i64 b18, .int .i64 b19, .slice b_a20 b_n21 b_c22, .int .i64 b23, .bool b24, .bool b25, .bool b26, .int .i64 b27, .int .i64 b28]) (by exact e1) rfl) rfl ?_
  generalize hp32 : fresh w31 = p32 at h ⊢
  generalize hw33 : push w31 26 [.int .i64 b15, .int .i64 b16, .int .i64 b17, .int .i64 b18, .int .i64 b19, .slice b_a20 b_n21 b_c22, .int .i64 b23, .bool b24, .bool b25, .bool b26, .int .i64 b27, .int .i64 b28] = w33 at h ⊢
  try dsimp only at h
  refine WL_val gd0 ((o_assign (v := .bool false) rfl) _) rfl ?_
  refine WL_nil ?_
  refine nrm ?_
  refine WC_seq ?_
  refine WC_region ?_
  refine WL_val gd0 ((o_fieldAddr0 Try.underlying26 rfl Try.sizeOf3 rfl rfl rfl) _) rfl ?_
  obtain ⟨x34, hc35, h⟩ := h
  refine WL_val gd0 (o_load Try.isAgg3 rfl hc35) rfl ?_
  refine WL_val gd0 ((o_fieldAddr0 Try.underlying26 rfl Try.sizeOf3 rfl rfl rfl) _) rfl ?_
  obtain ⟨x36, hc37, h⟩ := h
  refine WL_val gd0 (o_load Try.isAgg3 rfl hc37) rfl ?_
  refine WL_val gd0 ((o_eql rfl rfl) _) rfl ?_
  refine WL_val gd0 ((o_move (v := .bool (decide (x34 = x36))) rfl) _) rfl ?_
  refine bsplit (decide (x34 = x36)) (fun hb38 => ?_) (fun hb38 => ?_)
  · rw [if_pos (of_decide_eq_true hb38)] at h
    refine WL_val (gdY (b := (decide (x34 = x36))) 10 rfl rfl hb38) ((o_fieldAddr 1 Try.underlying26 rfl Try.sizeOf3 rfl rfl rfl) _) rfl ?_
    obtain ⟨x39, hc40, h⟩ := h
    refine WL_val (gdY (b := (decide (x34 = x36))) 10 rfl rfl hb38) (o_load Try.isAgg3 rfl hc40) rfl ?_
    refine WL_val (gdY (b := (decide (x34 = x36))) 10 rfl rfl hb38) ((o_fieldAddr 1 Try.underlying26 rfl Try.sizeOf3 rfl rfl rfl) _) rfl ?_
    obtain ⟨x41, hc42, h⟩ := h
    refine WL_val (gdY (b := (decide (x34 = x36))) 10 rfl rfl hb38) (o_load Try.isAgg3 rfl hc42) rfl ?_
    refine WL_val (gdY (b := (decide (x34 = x36))) 10 rfl rfl hb38) ((o_eql rfl rfl) _) rfl ?_
    refine WL_val gd0 ((o_pickT (v := .bool (decide (x39 = x41))) rfl hb38 rfl) _) rfl ?_
    refine WL_val gd0 ((o_move (v := .bool (decide (x39 = x41))) rfl) _) rfl ?_
    refine bsplit (decide (x39 = x41)) (fun hb43 => ?_) (fun hb43 => ?_)
    · rw [if_pos (of_decide_eq_true hb43)] at h
      refine WL_val (gdY (b := (decide (x39 = x41))) 17 rfl rfl hb43) ((o_fieldAddr 2 Try.underlying26 rfl Try.sizeOf3 rfl rfl rfl) _) rfl ?_
      obtain ⟨x44, hc45, h⟩ := h
      refine WL_val (gdY (b := (decide (x39 = x41))) 17 rfl rfl hb43) (o_load Try.isAgg3 rfl hc45) rfl ?_
      refine WL_val (gdY (b := (decide (x39 = x41))) 17 rfl rfl hb43) ((o_fieldAddr 2 Try.underlying26 rfl Try.sizeOf3 rfl rfl rfl) _) rfl ?_
      obtain ⟨x46, hc47, h⟩ := h
      refine WL_val (gdY (b := (decide (x39 = x41))) 17 rfl rfl hb43) (o_load Try.isAgg3 rfl hc47) rfl ?_
      refine WL_val (gdY (b := (decide (x39 = x41))) 17 rfl rfl hb43) ((o_eql rfl rfl) _) rfl ?_
      refine WL_val gd0 ((o_pickT (v := .bool (decide (x44 = x46))) rfl hb43 rfl) _) rfl ?_
      refine WL_val gd0 ((o_move (v := .bool (decide (x44 = x46))) rfl) _) rfl ?_
      refine bsplit (decide (x44 = x46)) (fun hb48 => ?_) (fun hb48 => ?_)
      · rw [if_pos (of_decide_eq_true hb48)] at h
        refine WL_val (gdY (b := (decide (x44 = x46))) 24 rfl rfl hb48) ((o_fieldAddr 3 Try.underlying26 rfl Try.sizeOf3 rfl rfl rfl) _) rfl ?_
        obtain ⟨x49, hc50, h⟩ := h
        refine WL_val (gdY (b := (decide (x44 = x46))) 24 rfl rfl hb48) (o_load Try.isAgg3 rfl hc50) rfl ?_
        refine WL_val (gdY (b := (decide (x44 = x46))) 24 rfl rfl hb48) ((o_fieldAddr 3 Try.underlying26 rfl Try.sizeOf3 rfl rfl rfl) _) rfl ?_
        obtain ⟨x51, hc52, h⟩ := h
        refine WL_val (gdY (b := (decide (x44 = x46))) 24 rfl rfl hb48) (o_load Try.isAgg3 rfl hc52) rfl ?_
        refine WL_val (gdY (b := (decide (x44 = x46))) 24 rfl rfl hb48) ((o_eql rfl rfl) _) rfl ?_
        refine WL_val gd0 ((o_pickT (v := .bool (decide (x49 = x51))) rfl hb48 rfl) _) rfl ?_
        refine WL_val gd0 ((o_move (v := .bool (decide (x49 = x51))) rfl) _) rfl ?_
        refine bsplit (decide (x49 = x51)) (fun hb53 => ?_) (fun hb53 => ?_)
        · rw [if_pos (of_decide_eq_true hb53)] at h
          refine WL_val (gdY (b := (decide (x49 = x51))) 31 rfl rfl hb53) ((o_fieldAddr 4 Try.underlying26 rfl Try.sizeOf3 rfl rfl rfl) _) rfl ?_
          obtain ⟨x54, hc55, h⟩ := h
          refine WL_val (gdY (b := (decide (x49 = x51))) 31 rfl rfl hb53) (o_load Try.isAgg3 rfl hc55) rfl ?_
          refine WL_val (gdY (b := (decide (x49 = x51))) 31 rfl rfl hb53) ((o_fieldAddr 4 Try.underlying26 rfl Try.sizeOf3 rfl rfl rfl) _) rfl ?_
          obtain ⟨x56, hc57, h⟩ := h
          refine WL_val (gdY (b := (decide (x49 = x51))) 31 rfl rfl hb53) (o_load Try.isAgg3 rfl hc57) rfl ?_
          refine WL_val (gdY (b := (decide (x49 = x51))) 31 rfl rfl hb53) ((o_eql rfl rfl) _) rfl ?_
          refine WL_val gd0 ((o_pickT (v := .bool (decide (x54 = x56))) rfl hb53 rfl) _) rfl ?_
          refine WL_val gd0 ((o_move (v := .bool (decide (x54 = x56))) rfl) _) rfl ?_
          refine bsplit (decide (x54 = x56)) (fun hb58 => ?_) (fun hb58 => ?_)
          · rw [if_pos (of_decide_eq_true hb58)] at h
            refine WL_val (gdY (b := (decide (x54 = x56))) 38 rfl rfl hb58) ((o_fieldAddr 6 Try.underlying26 rfl Try.sizeOf24 rfl rfl rfl) _) rfl ?_
            obtain ⟨x59, x60, x61, x62, x63, x64, hc65, h⟩ := h
            refine WL_val (gdY (b := (decide (x54 = x56))) 38 rfl rfl hb58) (o_loadAgg (vs := [.int .i64 x59, .bool x60, .bool x61, .bool x62, .int .i64 x63, .int .i64 x64]) Try.isAgg24 Try.sizeOf24 rfl hc65) rfl ?_
            refine WL_val (gdY (b := (decide (x54 = x56))) 38 rfl rfl hb58) ((o_fieldAddr 6 Try.underlying26 rfl Try.sizeOf24 rfl rfl rfl) _) rfl ?_
            obtain ⟨x66, x67, x68, x69, x70, x71, hc72, h⟩ := h
            refine WL_val (gdY (b := (decide (x54 = x56))) 38 rfl rfl hb58) (o_loadAgg (vs := [.int .i64 x66, .bool x67, .bool x68, .bool x69, .int .i64 x70, .int .i64 x71]) Try.isAgg24 Try.sizeOf24 rfl hc72) rfl ?_
            obtain ⟨eq73, c74, h⟩ := h
            refine WL_val (gdY (b := (decide (x54 = x56))) 38 rfl rfl hb58) ((o_eqlAgg (xs := #[.int .i64 x59, .bool x60, .bool x61, .bool x62, .int .i64 x63, .int .i64 x64]) (ys := #[.int .i64 x66, .bool x67, .bool x68, .bool x69, .int .i64 x70, .int .i64 x71]) Try.eqGuardType24 rfl rfl c74) _) rfl ?_
            refine WL_val gd0 ((o_pickT (v := .bool eq73) rfl hb58 rfl) _) rfl ?_
            refine WL_val gd0 ((o_move (v := .bool eq73) rfl) _) rfl ?_
            refine bsplit eq73 (fun hb75 => ?_) (fun hb75 => ?_)
            · rw [if_pos hb75] at h
              refine WL_val (gdY (b := eq73) 45 rfl rfl hb75) ((o_fieldAddr 5 Try.underlying26 rfl Try.sizeOf22 rfl rfl rfl) _) rfl ?_
              obtain ⟨x_a76, x_n77, x_c78, hc79, h⟩ := h
              refine WL_val (gdY (b := eq73) 45 rfl rfl hb75) (o_load Try.isAgg22 rfl hc79) rfl ?_
              obtain ⟨s80, r81, h⟩ := h
              refine WL_val (gdY (b := eq73) 45 rfl rfl hb75) (o_toStr Try.underlying22 Try.underlying5 Try.underlying9 rfl r81) rfl ?_
              refine WL_val (gdY (b := eq73) 45 rfl rfl hb75) ((o_fieldAddr 5 Try.underlying26 rfl Try.sizeOf22 rfl rfl rfl) _) rfl ?_
              obtain ⟨x_a82, x_n83, x_c84, hc85, h⟩ := h
              refine WL_val (gdY (b := eq73) 45 rfl rfl hb75) (o_load Try.isAgg22 rfl hc85) rfl ?_
              obtain ⟨s86, r87, h⟩ := h
              refine WL_val (gdY (b := eq73) 45 rfl rfl hb75) (o_toStr Try.underlying22 Try.underlying5 Try.underlying9 rfl r87) rfl ?_
              refine WL_val (gdY (b := eq73) 45 rfl rfl hb75) ((o_eqlStr rfl rfl) _) rfl ?_
              refine WL_val gd0 ((o_pickT (v := .bool (s80.toList == s86.toList)) rfl hb75 rfl) _) rfl ?_
              refine WL_val gd0 ((o_assign (v := .bool (s80.toList == s86.toList)) rfl) _) rfl ?_
              refine WL_nil ?_
              refine nrm ?_
              refine WC_ret ?_
              refine rtE ?_
              exact gv1 rfl rfl h
            · rw [if_neg (neT hb75)] at h
              refine WL_skip (gdN (b := eq73) 45 rfl rfl hb75) rfl ?_
              refine WL_skip (gdN (b := eq73) 45 rfl rfl hb75) rfl ?_
              refine WL_skip (gdN (b := eq73) 45 rfl rfl hb75) rfl ?_
              refine WL_skip (gdN (b := eq73) 45 rfl rfl hb75) rfl ?_
              refine WL_skip (gdN (b := eq73) 45 rfl rfl hb75) rfl ?_
              refine WL_skip (gdN (b := eq73) 45 rfl rfl hb75) rfl ?_
              refine WL_skip (gdN (b := eq73) 45 rfl rfl hb75) rfl ?_
              refine WL_val gd0 ((o_pickF (v := .bool false) rfl hb75 rfl) _) rfl ?_
              refine WL_val gd0 ((o_assign (v := .bool false) rfl) _) rfl ?_
              refine WL_nil ?_
              refine nrm ?_
              refine WC_ret ?_
              refine rtE ?_
              exact gv1 rfl rfl h
          · rw [if_neg (of_decide_eq_false hb58)] at h
            refine WL_skip (gdN (b := (decide (x54 = x56))) 38 rfl rfl hb58) rfl ?_
            refine WL_skip (gdN (b := (decide (x54 = x56))) 38 rfl rfl hb58) rfl ?_
            refine WL_skip (gdN (b := (decide (x54 = x56))) 38 rfl rfl hb58) rfl ?_
            refine WL_skip (gdN (b := (decide (x54 = x56))) 38 rfl rfl hb58) rfl ?_
            refine WL_skip (gdN (b := (decide (x54 = x56))) 38 rfl rfl hb58) rfl ?_
            refine WL_val gd0 ((o_pickF (v := .bool false) rfl hb58 rfl) _) rfl ?_
            refine WL_val gd0 ((o_move (v := .bool false) rfl) _) rfl ?_
            refine WL_skip (gdN (b := false) 45 rfl rfl rfl) rfl ?_
            refine WL_skip (gdN (b := false) 45 rfl rfl rfl) rfl ?_
            refine WL_skip (gdN (b := false) 45 rfl rfl rfl) rfl ?_
            refine WL_skip (gdN (b := false) 45 rfl rfl rfl) rfl ?_
            refine WL_skip (gdN (b := false) 45 rfl rfl rfl) rfl ?_
            refine WL_skip (gdN (b := false) 45 rfl rfl rfl) rfl ?_
            refine WL_skip (gdN (b := false) 45 rfl rfl rfl) rfl ?_
            refine WL_val gd0 ((o_pickF (v := .bool false) rfl rfl rfl) _) rfl ?_
            refine WL_val gd0 ((o_assign (v := .bool false) rfl) _) rfl ?_
            refine WL_nil ?_
            refine nrm ?_
            refine WC_ret ?_
            refine rtE ?_
            exact gv1 rfl rfl h
        · rw [if_neg (of_decide_eq_false hb53)] at h
          refine WL_skip (gdN (b := (decide (x49 = x51))) 31 rfl rfl hb53) rfl ?_
          refine WL_skip (gdN (b := (decide (x49 = x51))) 31 rfl rfl hb53) rfl ?_
          refine WL_skip (gdN (b := (decide (x49 = x51))) 31 rfl rfl hb53) rfl ?_
          refine WL_skip (gdN (b := (decide (x49 = x51))) 31 rfl rfl hb53) rfl ?_
          refine WL_skip (gdN (b := (decide (x49 = x51))) 31 rfl rfl hb53) rfl ?_
          refine WL_val gd0 ((o_pickF (v := .bool false) rfl hb53 rfl) _) rfl ?_
          refine WL_val gd0 ((o_move (v := .bool false) rfl) _) rfl ?_
          refine WL_skip (gdN (b := false) 38 rfl rfl rfl) rfl ?_
          refine WL_skip (gdN (b := false) 38 rfl rfl rfl) rfl ?_
          refine WL_skip (gdN (b := false) 38 rfl rfl rfl) rfl ?_
          refine WL_skip (gdN (b := false) 38 rfl rfl rfl) rfl ?_
          refine WL_skip (gdN (b := false) 38 rfl rfl rfl) rfl ?_
          refine WL_val gd0 ((o_pickF (v := .bool false) rfl rfl rfl) _) rfl ?_
          refine WL_val gd0 ((o_move (v := .bool false) rfl) _) rfl ?_
          refine WL_skip (gdN (b := false) 45 rfl rfl rfl) rfl ?_
          refine WL_skip (gdN (b := false) 45 rfl rfl rfl) rfl ?_
          refine WL_skip (gdN (b := false) 45 rfl rfl rfl) rfl ?_
          refine WL_skip (gdN (b := false) 45 rfl rfl rfl) rfl ?_
          refine WL_skip (gdN (b := false) 45 rfl rfl rfl) rfl ?_
          refine WL_skip (gdN (b := false) 45 rfl rfl rfl) rfl ?_
          refine WL_skip (gdN (b := false) 45 rfl rfl rfl) rfl ?_
          refine WL_val gd0 ((o_pickF (v := .bool false) rfl rfl rfl) _) rfl ?_
          refine WL_val gd0 ((o_assign (v := .bool false) rfl) _) rfl ?_
          refine WL_nil ?_
          refine nrm ?_
          refine WC_ret ?_
          refine rtE ?_
          exact gv1 rfl rfl h
      · rw [if_neg (of_decide_eq_false hb48)] at h
        refine WL_skip (gdN (b := (decide (x44 = x46))) 24 rfl rfl hb48) rfl ?_
        refine WL_skip (gdN (b := (decide (x44 = x46))) 24 rfl rfl hb48) rfl ?_
        refine WL_skip (gdN (b := (decide (x44 = x46))) 24 rfl rfl hb48) rfl ?_
        refine WL_skip (gdN (b := (decide (x44 = x46))) 24 rfl rfl hb48) rfl ?_
        refine WL_skip (gdN (b := (decide (x44 = x46))) 24 rfl rfl hb48) rfl ?_
        refine WL_val gd0 ((o_pickF (v := .bool false) rfl hb48 rfl) _) rfl ?_
        refine WL_val gd0 ((o_move (v := .bool false) rfl) _) rfl ?_
        refine WL_skip (gdN (b := false) 31 rfl rfl rfl) rfl ?_
        refine WL_skip (gdN (b := false) 31 rfl rfl rfl) rfl ?_
        refine WL_skip (gdN (b := false) 31 rfl rfl rfl) rfl ?_
        refine WL_skip (gdN (b := false) 31 rfl rfl rfl) rfl ?_
        refine WL_skip (gdN (b := false) 31 rfl rfl rfl) rfl ?_
        refine WL_val gd0 ((o_pickF (v := .bool false) rfl rfl rfl) _) rfl ?_
        refine WL_val gd0 ((o_move (v := .bool false) rfl) _) rfl ?_
        refine WL_skip (gdN (b := false) 38 rfl rfl rfl) rfl ?_
        refine WL_skip (gdN (b := false) 38 rfl rfl rfl) rfl ?_
        refine WL_skip (gdN (b := false) 38 rfl rfl rfl) rfl ?_
        refine WL_skip (gdN (b := false) 38 rfl rfl rfl) rfl ?_
        refine WL_skip (gdN (b := false) 38 rfl rfl rfl) rfl ?_
        refine WL_val gd0 ((o_pickF (v := .bool false) rfl rfl rfl) _) rfl ?_
        refine WL_val gd0 ((o_move (v := .bool false) rfl) _) rfl ?_
        refine WL_skip (gdN (b := false) 45 rfl rfl rfl) rfl ?_
        refine WL_skip (gdN (b := false) 45 rfl rfl rfl) rfl ?_
        refine WL_skip (gdN (b := false) 45 rfl rfl rfl) rfl ?_
        refine WL_skip (gdN (b := false) 45 rfl rfl rfl) rfl ?_
        refine WL_skip (gdN (b := false) 45 rfl rfl rfl) rfl ?_
        refine WL_skip (gdN (b := false) 45 rfl rfl rfl) rfl ?_
        refine WL_skip (gdN (b := false) 45 rfl rfl rfl) rfl ?_
        refine WL_val gd0 ((o_pickF (v := .bool false) rfl rfl rfl) _) rfl ?_
        refine WL_val gd0 ((o_assign (v := .bool false) rfl) _) rfl ?_
        refine WL_nil ?_
        refine nrm ?_
        refine WC_ret ?_
        refine rtE ?_
        exact gv1 rfl rfl h
    · rw [if_neg (of_decide_eq_false hb43)] at h
      refine WL_skip (gdN (b := (decide (x39 = x41))) 17 rfl rfl hb43) rfl ?_
      refine WL_skip (gdN (b := (decide (x39 = x41))) 17 rfl rfl hb43) rfl ?_
      refine WL_skip (gdN (b := (decide (x39 = x41))) 17 rfl rfl hb43) rfl ?_
      refine WL_skip (gdN (b := (decide (x39 = x41))) 17 rfl rfl hb43) rfl ?_
      refine WL_skip (gdN (b := (decide (x39 = x41))) 17 rfl rfl hb43) rfl ?_
      refine WL_val gd0 ((o_pickF (v := .bool false) rfl hb43 rfl) _) rfl ?_
      refine WL_val gd0 ((o_move (v := .bool false) rfl) _) rfl ?_
      refine WL_skip (gdN (b := false) 24 rfl rfl rfl) rfl ?_
      refine WL_skip (gdN (b := false) 24 rfl rfl rfl) rfl ?_
      refine WL_skip (gdN (b := false) 24 rfl rfl rfl) rfl ?_
      refine WL_skip (gdN (b := false) 24 rfl rfl rfl) rfl ?_
      refine WL_skip (gdN (b := false) 24 rfl rfl rfl) rfl ?_
      refine WL_val gd0 ((o_pickF (v := .bool false) rfl rfl rfl) _) rfl ?_
      refine WL_val gd0 ((o_move (v := .bool false) rfl) _) rfl ?_
      refine WL_skip (gdN (b := false) 31 rfl rfl rfl) rfl ?_
      refine WL_skip (gdN (b := false) 31 rfl rfl rfl) rfl ?_
      refine WL_skip (gdN (b := false) 31 rfl rfl rfl) rfl ?_
      refine WL_skip (gdN (b := false) 31 rfl rfl rfl) rfl ?_
      refine WL_skip (gdN (b := false) 31 rfl rfl rfl) rfl ?_
      refine WL_val gd0 ((o_pickF (v := .bool false) rfl rfl rfl) _) rfl ?_
      refine WL_val gd0 ((o_move (v := .bool false) rfl) _) rfl ?_
      refine WL_skip (gdN (b := false) 38 rfl rfl rfl) rfl ?_
      refine WL_skip (gdN (b := false) 38 rfl rfl rfl) rfl ?_
      refine WL_skip (gdN (b := false) 38 rfl rfl rfl) rfl ?_
      refine WL_skip (gdN (b := false) 38 rfl rfl rfl) rfl ?_
      refine WL_skip (gdN (b := false) 38 rfl rfl rfl) rfl ?_
      refine WL_val gd0 ((o_pickF (v := .bool false) rfl rfl rfl) _) rfl ?_
      refine WL_val gd0 ((o_move (v := .bool false) rfl) _) rfl ?_
      refine WL_skip (gdN (b := false) 45 rfl rfl rfl) rfl ?_
      refine WL_skip (gdN (b := false) 45 rfl rfl rfl) rfl ?_
      refine WL_skip (gdN (b := false) 45 rfl rfl rfl) rfl ?_
      refine WL_skip (gdN (b := false) 45 rfl rfl rfl) rfl ?_
      refine WL_skip (gdN (b := false) 45 rfl rfl rfl) rfl ?_
      refine WL_skip (gdN (b := false) 45 rfl rfl rfl) rfl ?_
      refine WL_skip (gdN (b := false) 45 rfl rfl rfl) rfl ?_
      refine WL_val gd0 ((o_pickF (v := .bool false) rfl rfl rfl) _) rfl ?_
      refine WL_val gd0 ((o_assign (v := .bool false) rfl) _) rfl ?_
      refine WL_nil ?_
      refine nrm ?_
      refine WC_ret ?_
      refine rtE ?_
      exact gv1 rfl rfl h
  · rw [if_neg (of_decide_eq_false hb38)] at h
    refine WL_skip (gdN (b := (decide (x34 = x36))) 10 rfl rfl hb38) rfl ?_
    refine WL_skip (gdN (b := (decide (x34 = x36))) 10 rfl rfl hb38) rfl ?_
    refine WL_skip (gdN (b := (decide (x34 = x36))) 10 rfl rfl hb38) rfl ?_
    refine WL_skip (gdN (b := (decide (x34 = x36))) 10 rfl rfl hb38) rfl ?_
    refine WL_skip (gdN (b := (decide (x34 = x36))) 10 rfl rfl hb38) rfl ?_
    refine WL_val gd0 ((o_pickF (v := .bool false) rfl hb38 rfl) _) rfl ?_
    refine WL_val gd0 ((o_move (v := .bool false) rfl) _) rfl ?_
    refine WL_skip (gdN (b := false) 17 rfl rfl rfl) rfl ?_
    refine WL_skip (gdN (b := false) 17 rfl rfl rfl) rfl ?_
    refine WL_skip (gdN (b := false) 17 rfl rfl rfl) rfl ?_
    refine WL_skip (gdN (b := false) 17 rfl rfl rfl) rfl ?_
    refine WL_skip (gdN (b := false) 17 rfl rfl rfl) rfl ?_
    refine WL_val gd0 ((o_pickF (v := .bool false) rfl rfl rfl) _) rfl ?_
    refine WL_val gd0 ((o_move (v := .bool false) rfl) _) rfl ?_
    refine WL_skip (gdN (b := false) 24 rfl rfl rfl) rfl ?_
    refine WL_skip (gdN (b := false) 24 rfl rfl rfl) rfl ?_
    refine WL_skip (gdN (b := false) 24 rfl rfl rfl) rfl ?_
    refine WL_skip (gdN (b := false) 24 rfl rfl rfl) rfl ?_
    refine WL_skip (gdN (b := false) 24 rfl rfl rfl) rfl ?_
    refine WL_val gd0 ((o_pickF (v := .bool false) rfl rfl rfl) _) rfl ?_
    refine WL_val gd0 ((o_move (v := .bool false) rfl) _) rfl ?_
    refine WL_skip (gdN (b := false) 31 rfl rfl rfl) rfl ?_
    refine WL_skip (gdN (b := false) 31 rfl rfl rfl) rfl ?_
    refine WL_skip (gdN (b := false) 31 rfl rfl rfl) rfl ?_
    refine WL_skip (gdN (b := false) 31 rfl rfl rfl) rfl ?_
    refine WL_skip (gdN (b := false) 31 rfl rfl rfl) rfl ?_
    refine WL_val gd0 ((o_pickF (v := .bool false) rfl rfl rfl) _) rfl ?_
    refine WL_val gd0 ((o_move (v := .bool false) rfl) _) rfl ?_
    refine WL_skip (gdN (b := false) 38 rfl rfl rfl) rfl ?_
    refine WL_skip (gdN (b := false) 38 rfl rfl rfl) rfl ?_
    refine WL_skip (gdN (b := false) 38 rfl rfl rfl) rfl ?_
    refine WL_skip (gdN (b := false) 38 rfl rfl rfl) rfl ?_
    refine WL_skip (gdN (b := false) 38 rfl rfl rfl) rfl ?_
    refine WL_val gd0 ((o_pickF (v := .bool false) rfl rfl rfl) _) rfl ?_
    refine WL_val gd0 ((o_move (v := .bool false) rfl) _) rfl ?_
    refine WL_skip (gdN (b := false) 45 rfl rfl rfl) rfl ?_
    refine WL_skip (gdN (b := false) 45 rfl rfl rfl) rfl ?_
    refine WL_skip (gdN (b := false) 45 rfl rfl rfl) rfl ?_
    refine WL_skip (gdN (b := false) 45 rfl rfl rfl) rfl ?_
    refine WL_skip (gdN (b := false) 45 rfl rfl rfl) rfl ?_
    refine WL_skip (gdN (b := false) 45 rfl rfl rfl) rfl ?_
    refine WL_skip (gdN (b := false) 45 rfl rfl rfl) rfl ?_
    refine WL_val gd0 ((o_pickF (v := .bool false) rfl rfl rfl) _) rfl ?_
    refine WL_val gd0 ((o_assign (v := .bool false) rfl) _) rfl ?_
    refine WL_nil ?_
    refine nrm ?_
    refine WC_ret ?_
    refine rtE ?_
    exact gv1 rfl rfl h

/-- spacecraft bits.NewWriter -/
def F16 (w1 : World) (k : Value → World → Prop) : Prop :=
  New w1 64 [.bool true, .slice none 0 0, .int .i64 0] (fun p2 w3 => k (.pointer (some p2)) w3)
set_option maxRecDepth 100000 in
set_option maxHeartbeats 2000000 in
theorem w16 (w1 : World) (k : Value → World → Prop) (h : F16 w1 k) : Does Try.prog 16 #[] w1 k := by
  refine enter 3 Try.func16 rfl rfl rfl ?_
  intro ρ hρ
  unfold F16 at h
  refine WC_seq ?_
  refine WC_region ?_
  refine WL_val gd0 ((o_assign (v := .pointer none) rfl) _) rfl ?_
  refine WL_nil ?_
  refine nrm ?_
  refine WC_seq ?_
  refine WC_region ?_
  refine WL_val gd0 ((o_build (ps := [(0, .bool true)]) (v := .agg #[.bool true, .slice none 0 0, .int .i64 0]) (partCons rfl partNil) (fun w => by kernel_rfl)) _) rfl ?_
  have h := New.out h
  refine WL_val gd0 (o_box (v := .agg #[.bool true, .slice none 0 0, .int .i64 0]) (cs := [.bool true, .slice none 0 0, .int .i64 0]) rfl rfl) rfl ?_
  generalize hp2 : fresh w1 = p2 at h ⊢
  generalize hw3 : push w1 64 [.bool true, .slice none 0 0, .int .i64 0] = w3 at h ⊢
  try dsimp only at h
  refine WL_val gd0 ((o_assign (v := .pointer (some p2)) rfl) _) rfl ?_
  refine WL_nil ?_
  refine nrm ?_
  refine WC_ret ?_
  refine rtE ?_
  exact gv1 rfl rfl h

def F17_j3 (width3 : Int) (t20 : Int) (w1 : Option Addr) (n2 : Int) (w30 : World) (nx21 : Int → World → Prop) : Prop :=
  (0 : Int) ≤ IntKind.i64.wrap ((IntKind.i64.wrap (width3 - 1)) - t20) ∧ ∃ (p32 : Addr), w1 = some p32 ∧ ∃ (x_a34 : Option Addr) (x_n35 x_c36 : Nat), w30.drew.cell? (p32.add 1) = some (.slice x_a34 x_n35 x_c36) ∧ ∃ (x38 : Int), w30.drew.cell? (p32.add 2) = some (.int .i64 x38) ∧ ∃ (p42 : Addr), x_a34 = some p42 ∧ (0 : Int) ≤ IntKind.i64.wrap (Int.tdiv x38 8) ∧ IntKind.i64.wrap (Int.tdiv x38 8) < (x_n35 : Int) ∧ ∃ (x44 : Int), w30.drew.cell? (p42.add ((IntKind.i64.wrap (Int.tdiv x38 8)).toNat)) = some (.int .u8 x44) ∧ ∃ (x46 : Int), w30.drew.cell? (p32.add 2) = some (.int .i64 x46) ∧ (0 : Int) ≤ IntKind.i64.wrap (7 - (Int.tmod x46 8)) ∧ (0 : Int) ≤ IntKind.i64.wrap (Int.tdiv x38 8) ∧ IntKind.i64.wrap (Int.tdiv x38 8) < (x_n35 : Int) ∧ Put w30.drew (p42.add ((IntKind.i64.wrap (Int.tdiv x38 8)).toNat)) (.int .u8 (bor .u8 x44 (shl .u8 (IntKind.u8.wrap (band .u64 (shr .u64 n2 (IntKind.i64.wrap ((IntKind.i64.wrap (width3 - 1)) - t20))) 1)) (IntKind.i64.wrap (7 - (Int.tmod x46 8)))))) (fun w51 => ∃ (x53 : Int), w51.cell? (p32.add 2) = some (.int .i64 x53) ∧ Put w51 (p32.add 2) (.int .i64 (IntKind.i64.wrap (x53 + 1))) (fun w55 => nx21 (IntKind.i64.wrap (t20 + 1)) w55))
def F17_b2 (width3 : Int) (w1 : Option Addr) (n2 : Int) (t20 : Int) (w21 : World) (nx21 : Int → World → Prop) (k : Value → World → Prop) : Prop :=
  if t20 < width3 then
  ∃ (p57 : Addr), w1 = some p57 ∧ ∃ (x59 : Int), w21.cell? (p57.add 2) = some (.int .i64 x59) ∧ if (Int.tmod x59 8) = 0 then
    ∃ (x_a62 : Option Addr) (x_n63 x_c64 : Nat), w21.cell? (p57.add 1) = some (.slice x_a62 x_n63 x_c64) ∧ New w21 5 [.int .u8 0] (fun p66 w67 => ∃ (b_a68 : Option Addr) (b_n69 b_c70 : Nat) (w71 : World), (Builtin.append_ #[22, 22] 22 #[.slice x_a62 x_n63 x_c64, .slice (some p66) 1 1]).run Try.prog w67 = .ok (.slice b_a68 b_n69 b_c70) w71 ∧ Put w71 (p57.add 1) (.slice b_a68 b_n69 b_c70) (fun w73 => F17_j3 width3 t20 w1 n2 w73 nx21))
  else
    F17_j3 width3 t20 w1 n2 w21 nx21
else
  k (.pointer w1) w21
def F17_j1 (w1 : Option Addr) (width3 : Int) (n2 : Int) (t12 : Bool) (w13 : World) (k : Value → World → Prop) : Prop :=
  if t12 = true then
  k (.pointer w1) w13
else
  LoopP (fun (s : Int) w' nx' => F17_b2 width3 w1 n2 s w' (fun x0 w => nx' x0 w) k) 0 w13
/-- (*spacecraft bits.Writer).Put -/
def F17 (w1 : Option Addr) (n2 : Int) (width3 : Int) (w4 : World) (k : Value → World → Prop) : Prop :=
  Does Try.prog 39 #[.pointer w1] w4 (fun v w5 => ∃ (x6 : Bool), v = .bool x6 ∧ if (!x6) = true then
  k (.pointer none) w5
else
  if width3 < 0 then
    F17_j1 w1 width3 n2 true w5 k
  else
    F17_j1 w1 width3 n2 (decide (64 < width3)) w5 k)
set_option maxRecDepth 100000 in
set_option maxHeartbeats 2000000 in
theorem w17 (w1 : Option Addr) (n2 : Int) (width3 : Int) (w4 : World) (k : Value → World → Prop) (h : F17 w1 n2 width3 w4 k) : Does Try.prog 17 #[.pointer w1, .int .u64 n2, .int .i64 width3] w4 k := by
  refine enter 76 Try.func17 rfl rfl rfl ?_
  intro ρ hρ
  have e0 := hρ 0 _ rfl
  have e1 := hρ 1 _ rfl
  have e2 := hρ 2 _ rfl
  unfold F17 at h
  refine WC_seq ?_
  refine WC_region ?_
  refine WL_val gd0 ((o_assign (v := .pointer none) rfl) _) rfl ?_
  refine WL_nil ?_
  refine nrm ?_
  refine WC_seq ?_
  refine WC_seq ?_
  refine WC_region ?_
  refine WL_val gd0 ((o_move (v := .pointer w1) (by exact e0)) _) rfl ?_
  refine WL_call gd0 (o_call Try.call39 (argCons rfl argNil) _) rfl (h.mono ?_)
  rintro _ w5 ⟨x6, rfl, h⟩
  refine WL_val gd0 ((o_not rfl) _) rfl ?_
  refine WL_nil ?_
  refine nrm ?_
  refine WC_cond (t := (!x6)) rfl (fun hb7 => ?_) (fun hb7 => ?_)
  · rw [if_pos hb7] at h
    refine WC_seq ?_
    refine WC_region ?_
    refine WL_val gd0 ((o_assign (v := .pointer none) rfl) _) rfl ?_
    refine WL_nil ?_
    refine nrm ?_
    refine WC_ret ?_
    refine rtT ?_
    refine rtE ?_
    exact gv1 rfl rfl h
  · rw [if_neg (neT hb7)] at h
    refine WC_skip ?_
    refine nrm ?_
    refine WC_seq ?_
    refine WC_cut (fun ρ w' => ∃ (t12 : Bool), ρ 17 = .bool t12 ∧ ρ 0 = .pointer w1 ∧ ρ 1 = .int .u64 n2 ∧ ρ 2 = .int .i64 width3 ∧ F17_j1 w1 width3 n2 t12 w' k) ?_ ?_
    · refine WC_region ?_
      refine WL_val gd0 ((o_move (v := .int .i64 width3) (by exact e2)) _) rfl ?_
      refine WL_val gd0 ((o_lss rfl rfl) _) rfl ?_
      refine WL_val gd0 ((o_move (v := .bool (decide (width3 < 0))) rfl) _) rfl ?_
      refine bsplit (decide (width3 < 0)) (fun hb75 => ?_) (fun hb75 => ?_)
      · rw [if_pos (of_decide_eq_true hb75)] at h
        refine WL_skip (gdN (b := (decide (width3 < 0))) 14 rfl rfl hb75) rfl ?_
        refine WL_skip (gdN (b := (decide (width3 < 0))) 14 rfl rfl hb75) rfl ?_
        refine WL_val gd0 ((o_pickT (v := .bool true) rfl hb75 rfl) _) rfl ?_
        refine WL_nil ?_
        refine nrm ?_
        exact ⟨_, rfl, e0, e1, e2, h⟩
      · rw [if_neg (of_decide_eq_false hb75)] at h
        refine WL_val (gdY (b := (decide (width3 < 0))) 14 rfl rfl hb75) ((o_move (v := .int .i64 width3) (by exact e2)) _) rfl ?_
        refine WL_val (gdY (b := (decide (width3 < 0))) 14 rfl rfl hb75) ((o_gtr rfl rfl) _) rfl ?_
        refine WL_val gd0 ((o_pickF (v := .bool (decide (64 < width3))) rfl hb75 rfl) _) rfl ?_
        refine WL_nil ?_
        refine nrm ?_
        exact ⟨_, rfl, e0, e1, e2, h⟩
    · rintro ρ w13 ⟨t12, e17_11, e0_8, e1_9, e2_10, h⟩
      unfold F17_j1 at h
      refine WC_cond (t := t12) (by exact e17_11) (fun hb14 => ?_) (fun hb14 => ?_)
      · rw [if_pos hb14] at h
        refine WC_seq ?_
        refine WC_region ?_
        refine WL_val gd0 ((o_move (v := .pointer w1) (by exact e0_8)) _) rfl ?_
        refine WL_val gd0 ((o_assign (v := .pointer w1) rfl) _) rfl ?_
        refine WL_nil ?_
        refine nrm ?_
        refine WC_ret ?_
        refine rtT ?_
        refine rtE ?_
        exact gv1 rfl rfl h
      · rw [if_neg (neT hb14)] at h
        refine WC_skip ?_
        refine nrm ?_
        refine WC_seq ?_
        refine WC_seq ?_
        refine WC_region ?_
        refine WL_val gd0 ((o_move (v := .int .i64 width3) (by exact e2_10)) _) rfl ?_
        refine WL_val gd0 ((o_move (v := .int .i64 0) rfl) _) rfl ?_
        refine WL_nil ?_
        refine nrm ?_
        refine WC_block ?_
        obtain ⟨J21, ⟨n21, h0⟩, hr21⟩ := h
        refine WC_loop (fun n ρ w' => ∃ (t20 : Int), ρ 20 = .int .i64 t20 ∧ ρ 0 = .pointer w1 ∧ ρ 1 = .int .u64 n2 ∧ ρ 2 = .int .i64 width3 ∧ ρ 19 = .int .i64 width3 ∧ J21 n t20 w') ⟨n21, _, rfl, e0_8, e1_9, e2_10, rfl, h0⟩ ?_
        rintro n21 ρ w21 ⟨t20, e20_19, e0_15, e1_16, e2_17, e19_18, h⟩
        have h : F17_b2 width3 w1 n2 t20 w21 (fun x0 w => ∃ m, m < n21 ∧ J21 m x0 w) k := hr21 n21 t20 w21 h
        unfold F17_b2 at h
        refine WC_seq ?_
        refine WC_region ?_
        refine WL_val gd0 ((o_lss (by exact e20_19) (by exact e19_18)) _) rfl ?_
        refine WL_nil ?_
        refine nrm ?_
        refine WC_seq ?_
        refine WC_cond (t := (decide (t20 < width3))) rfl (fun hb23 => ?_) (fun hb23 => ?_)
        · rw [if_pos (of_decide_eq_true hb23)] at h
          refine WC_skip ?_
          refine nrm ?_
          refine WC_seq ?_
          refine WC_block ?_
          refine WC_seq ?_
          refine WC_region ?_
          refine WL_val gd0 ((o_move (v := .int .i64 t20) (by exact e20_19)) _) rfl ?_
          refine WL_val gd0 ((o_assign (v := .int .i64 t20) rfl) _) rfl ?_
          refine WL_nil ?_
          refine nrm ?_
          refine WC_cut (fun ρ w' => ρ 0 = .pointer w1 ∧ ρ 1 = .int .u64 n2 ∧ ρ 2 = .int .i64 width3 ∧ ρ 7 = .int .i64 t20 ∧ ρ 19 = .int .i64 width3 ∧ ρ 20 = .int .i64 t20 ∧ F17_j3 width3 t20 w1 n2 w' (fun x0 w => ∃ m, m < n21 ∧ J21 m x0 w)) ?_ ?_
          · refine WC_seq ?_
            refine WC_region ?_
            refine WL_val gd0 ((o_move (v := .pointer w1) (by exact e0_15)) _) rfl ?_
            obtain ⟨p57, q58, h⟩ := h
            refine WL_val gd0 ((o_nilCheck (by exact (congrArg Value.pointer q58))) _) rfl ?_
            refine WL_val gd0 ((o_fieldAddr 2 Try.underlying64 rfl Try.sizeOf3 rfl rfl rfl) _) rfl ?_
            obtain ⟨x59, hc60, h⟩ := h
            refine WL_val gd0 (o_load Try.isAgg3 rfl hc60) rfl ?_
            refine WL_val gd0 ((fun w => o_rem rfl rfl w (by decide)) _) rfl ?_
            refine WL_val gd0 ((o_eql rfl rfl) _) rfl ?_
            refine WL_nil ?_
            refine nrm ?_
            refine WC_cond (t := (decide ((Int.tmod x59 8) = 0))) rfl (fun hb61 => ?_) (fun hb61 => ?_)
            · rw [if_pos (of_decide_eq_true hb61)] at h
              refine WC_region ?_
              refine WL_val gd0 ((o_move (v := .pointer w1) (by exact e0_15)) _) rfl ?_
              refine WL_val gd0 ((o_move (v := .pointer w1) (by exact e0_15)) _) rfl ?_
              refine WL_val gd0 ((o_nilCheck (by exact (congrArg Value.pointer q58))) _) rfl ?_
              refine WL_val gd0 ((o_fieldAddr 1 Try.underlying64 rfl Try.sizeOf22 rfl rfl rfl) _) rfl ?_
              obtain ⟨x_a62, x_n63, x_c64, hc65, h⟩ := h
              refine WL_val gd0 (o_load Try.isAgg22 rfl hc65) rfl ?_
              have h := New.out h
              refine WL_val gd0 (o_buildSlice (e := 5) (ps := [(0, .int .u8 0)]) (cs := [.int .u8 0]) (partCons rfl partNil) (fun w => by kernel_rfl)) rfl ?_
              generalize hp66 : fresh w21 = p66 at h ⊢
              generalize hw67 : push w21 5 [.int .u8 0] = w67 at h ⊢
              try dsimp only at h
              obtain ⟨b_a68, b_n69, b_c70, w71, r72, h⟩ := h
              refine WL_val gd0 (o_append rfl rfl r72) rfl ?_
              refine WL_val gd0 ((o_nilCheck (by exact (congrArg Value.pointer q58))) _) rfl ?_
              refine WL_val gd0 ((o_fieldAddr 1 Try.underlying64 rfl Try.sizeOf22 rfl rfl rfl) _) rfl ?_
              obtain ⟨c74, h⟩ := h
              refine WL_act gd0 (o_store (v := .slice b_a68 b_n69 b_c70) Try.sizeOf22 rfl rfl rfl c74) ?_
              generalize hw73 : World.setCell w71 (p57.add 1) (.slice b_a68 b_n69 b_c70) = w73 at h ⊢
              try dsimp only at h
              refine WL_nil ?_
              refine nrm ?_
              exact ⟨e0_15, e1_16, e2_17, rfl, e19_18, e20_19, h⟩
            · rw [if_neg (of_decide_eq_false hb61)] at h
              refine WC_skip ?_
              refine nrm ?_
              exact ⟨e0_15, e1_16, e2_17, rfl, e19_18, e20_19, h⟩
          · rintro ρ w30 ⟨e0_24, e1_25, e2_26, e7_27, e19_28, e20_29, h⟩
            unfold F17_j3 at h
            refine WC_seq ?_
            refine WC_region ?_
            refine WL_val gd0 ((o_move (v := .int .u64 n2) (by exact e1_25)) _) rfl ?_
            refine WL_val gd0 ((o_move (v := .int .i64 width3) (by exact e2_26)) _) rfl ?_
            refine WL_val gd0 ((o_sub rfl rfl) _) rfl ?_
            refine WL_val gd0 ((o_move (v := .int .i64 t20) (by exact e7_27)) _) rfl ?_
            refine WL_val gd0 ((o_sub rfl rfl) _) rfl ?_
            obtain ⟨c31, h⟩ := h
            refine WL_val gd0 ((o_shr rfl rfl c31) _) rfl ?_
            refine WL_val gd0 ((o_and rfl rfl) _) rfl ?_
            refine WL_val gd0 ((o_conv Try.underlying41 Try.underlying5 rfl) _) rfl ?_
            refine WL_val gd0 ((o_assign (v := .int .u8 (IntKind.u8.wrap (band .u64 (shr .u64 n2 (IntKind.i64.wrap ((IntKind.i64.wrap (width3 - 1)) - t20))) 1))) rfl) _) rfl ?_
            refine WL_nil ?_
            refine nrm ?_
            refine WC_seq ?_
            refine WC_draws [21] (.look 0 (.look 1 (.look 2 (.look 3 (.look 4 (.look 5 (.look 6 (.look 7 (.look 8 (.look 9 (.look 10 (.look 11 (.look 12 (.look 13 (.look 14 (.look 15 (.look 16 (.look 17 (.look 18 (.look 19 (.look 20 (.act 21 .nil)))))))))))))))))))))) Try.mixed (by kernel_rfl) ?_
            refine WQ_val rfl gd0 (o_move (v := .pointer w1) (by exact e0_24)) rfl ?_
            obtain ⟨p32, q33, h⟩ := h
            refine WQ_val rfl gd0 (o_nilCheck (by exact (congrArg Value.pointer q33))) rfl ?_
            refine WQ_val rfl gd0 (o_fieldAddr 1 Try.underlying64 rfl Try.sizeOf22 rfl rfl rfl) rfl ?_
            obtain ⟨x_a34, x_n35, x_c36, hc37, h⟩ := h
            refine WQ_look (fun w => w.cell? (p32.add 1) = some (.slice x_a34 x_n35 x_c36)) rfl gd0 (fun w hc => (o_load Try.isAgg22 rfl hc)) hc37 rfl ?_
            refine WQ_val rfl gd0 (o_move (v := .pointer w1) (by exact e0_24)) rfl ?_
            refine WQ_val rfl gd0 (o_nilCheck (by exact (congrArg Value.pointer q33))) rfl ?_
            refine WQ_val rfl gd0 (o_fieldAddr 2 Try.underlying64 rfl Try.sizeOf3 rfl rfl rfl) rfl ?_
            obtain ⟨x38, hc39, h⟩ := h
            refine WQ_look (fun w => w.cell? (p32.add 2) = some (.int .i64 x38)) rfl gd0 (fun w hc => (o_load Try.isAgg3 rfl hc)) hc39 rfl ?_
            refine WQ_val rfl gd0 (fun w => o_quo rfl rfl w (by decide)) rfl ?_
            obtain ⟨p42, q43, h⟩ := h
            obtain ⟨l40, u41, h⟩ := h
            refine WQ_val rfl gd0 (o_indexAddr1 Try.underlying22 Try.sizeOf5 (by exact (congrArg (fun z => Value.slice z x_n35 x_c36) q43)) rfl l40 u41) rfl ?_
            obtain ⟨x44, hc45, h⟩ := h
            refine WQ_look (fun w => w.cell? (p42.add ((IntKind.i64.wrap (Int.tdiv x38 8)).toNat)) = some (.int .u8 x44)) rfl gd0 (fun w hc => (o_load Try.isAgg5 rfl hc)) hc45 rfl ?_
            refine WQ_val rfl gd0 (o_move (v := .int .u8 (IntKind.u8.wrap (band .u64 (shr .u64 n2 (IntKind.i64.wrap ((IntKind.i64.wrap (width3 - 1)) - t20))) 1))) rfl) rfl ?_
            refine WQ_val rfl gd0 (o_move (v := .pointer w1) (by exact e0_24)) rfl ?_
            refine WQ_val rfl gd0 (o_nilCheck (by exact (congrArg Value.pointer q33))) rfl ?_
            refine WQ_val rfl gd0 (o_fieldAddr 2 Try.underlying64 rfl Try.sizeOf3 rfl rfl rfl) rfl ?_
            obtain ⟨x46, hc47, h⟩ := h
            refine WQ_look (fun w => w.cell? (p32.add 2) = some (.int .i64 x46)) rfl gd0 (fun w hc => (o_load Try.isAgg3 rfl hc)) hc47 rfl ?_
            refine WQ_val rfl gd0 (fun w => o_rem rfl rfl w (by decide)) rfl ?_
            refine WQ_val rfl gd0 (o_sub rfl rfl) rfl ?_
            obtain ⟨c48, h⟩ := h
            refine WQ_val rfl gd0 (o_shl rfl rfl c48) rfl ?_
            refine WQ_val rfl gd0 (o_or rfl rfl) rfl ?_
            obtain ⟨l49, u50, h⟩ := h
            refine WQ_val rfl gd0 (o_indexAddr1 Try.underlying22 Try.sizeOf5 (by exact (congrArg (fun z => Value.slice z x_n35 x_c36) q43)) rfl l49 u50) rfl ?_
            obtain ⟨c52, h⟩ := h
            refine WQ_do rfl gd0 (o_store (v := .int .u8 (bor .u8 x44 (shl .u8 (IntKind.u8.wrap (band .u64 (shr .u64 n2 (IntKind.i64.wrap ((IntKind.i64.wrap (width3 - 1)) - t20))) 1)) (IntKind.i64.wrap (7 - (Int.tmod x46 8)))))) Try.sizeOf5 rfl rfl rfl c52) (by exact ⟨⟨⟨⟨trivial, depT (by kernel_rfl)⟩, depT (by kernel_rfl)⟩, depT (by kernel_rfl)⟩, depT (by kernel_rfl)⟩) ?_
            generalize hw51 : World.setCell w30.drew (p42.add ((IntKind.i64.wrap (Int.tdiv x38 8)).toNat)) (.int .u8 (bor .u8 x44 (shl .u8 (IntKind.u8.wrap (band .u64 (shr .u64 n2 (IntKind.i64.wrap ((IntKind.i64.wrap (width3 - 1)) - t20))) 1)) (IntKind.i64.wrap (7 - (Int.tmod x46 8)))))) = w51 at h ⊢
            try dsimp only at h
            refine WQ_nil ?_
            refine nrm ?_
            refine WC_region ?_
            refine WL_val gd0 ((o_move (v := .pointer w1) (by exact e0_24)) _) rfl ?_
            refine WL_val gd0 ((o_nilCheck (by exact (congrArg Value.pointer q33))) _) rfl ?_
            refine WL_val gd0 ((o_fieldAddr 2 Try.underlying64 rfl Try.sizeOf3 rfl rfl rfl) _) rfl ?_
            obtain ⟨x53, hc54, h⟩ := h
            refine WL_val gd0 (o_load Try.isAgg3 rfl hc54) rfl ?_
            refine WL_val gd0 ((o_add rfl rfl) _) rfl ?_
            refine WL_val gd0 ((o_nilCheck (by exact (congrArg Value.pointer q33))) _) rfl ?_
            refine WL_val gd0 ((o_fieldAddr 2 Try.underlying64 rfl Try.sizeOf3 rfl rfl rfl) _) rfl ?_
            obtain ⟨c56, h⟩ := h
            refine WL_act gd0 (o_store (v := .int .i64 (IntKind.i64.wrap (x53 + 1))) Try.sizeOf3 rfl rfl rfl c56) ?_
            generalize hw55 : World.setCell w51 (p32.add 2) (.int .i64 (IntKind.i64.wrap (x53 + 1))) = w55 at h ⊢
            try dsimp only at h
            refine WL_nil ?_
            refine nrmB ?_
            refine nrm ?_
            refine WC_region ?_
            refine WL_val gd0 ((o_add (by exact e20_29) rfl) _) rfl ?_
            refine WL_val gd0 ((o_move (v := .int .i64 (IntKind.i64.wrap (t20 + 1))) rfl) _) rfl ?_
            refine WL_nil ?_
            refine nrm ?_
            obtain ⟨m22, hm22, h⟩ := h
            exact ⟨m22, hm22, _, rfl, e0_24, e1_25, e2_26, e19_28, h⟩
        · rw [if_neg (of_decide_eq_false hb23)] at h
          refine WC_exit ?_
          refine exT ?_
          refine exT ?_
          refine exB ?_
          refine nrm ?_
          refine WC_seq ?_
          refine WC_region ?_
          refine WL_val gd0 ((o_move (v := .pointer w1) (by exact e0_15)) _) rfl ?_
          refine WL_val gd0 ((o_assign (v := .pointer w1) rfl) _) rfl ?_
          refine WL_nil ?_
          refine nrm ?_
          refine WC_ret ?_
          refine rtE ?_
          exact gv1 rfl rfl h

/-- spacecraft clcw.Encode -/
def F18 (c1 : Int) (c2 : Bool) (c3 : Bool) (c4 : Bool) (c5 : Int) (c6 : Int) (w7 : World) (k : Value → World → Prop) : Prop :=
  New w7 24 [.int .i64 c1, .bool c2, .bool c3, .bool c4, .int .i64 c5, .int .i64 c6] (fun p8 w9 => ∃ (x10 : Int) (x11 x12 x13 : Bool) (x14 x15 : Int), Cells w9 p8 0 [.int .i64 x10, .bool x11, .bool x12, .bool x13, .int .i64 x14, .int .i64 x15] ∧ Does Try.prog 27 #[.agg #[.int .i64 x10, .bool x11, .bool x12, .bool x13, .int .i64 x14, .int .i64 x15]] w9 (fun v w17 => ∃ (x18 : Bool), v = .bool x18 ∧ if (!x18) = true then
  k (.tuple #[.slice none 0 0, .int .i64 1]) w17
else
  Does Try.prog 16 #[] w17 (fun v w20 => ∃ (w21 : Option Addr), v = .pointer w21 ∧ ∃ (x22 : Int), w20.drew.cell? p8 = some (.int .i64 x22) ∧ Does Try.prog 17 #[.pointer w21, .int .u64 0, .int .i64 6] w20.drew (fun v w24 => ∃ (x25 : Option Addr), v = .pointer x25 ∧ w24.cell? p8 = some (.int .i64 x22) ∧ Does Try.prog 17 #[.pointer x25, .int .u64 1, .int .i64 2] w24 (fun v w27 => ∃ (x28 : Option Addr), v = .pointer x28 ∧ w27.cell? p8 = some (.int .i64 x22) ∧ Does Try.prog 17 #[.pointer x28, .int .u64 (IntKind.u64.wrap x22), .int .i64 6] w27 (fun v w30 => ∃ (x31 : Option Addr), v = .pointer x31 ∧ Does Try.prog 17 #[.pointer x31, .int .u64 0, .int .i64 4] w30 (fun v w32 => ∃ (x33 : Option Addr), v = .pointer x33 ∧ ∃ (x34 : Bool), w32.drew.cell? (p8.add 1) = some (.bool x34) ∧ ∃ (x36 : Bool), w32.drew.cell? (p8.add 2) = some (.bool x36) ∧ ∃ (x38 : Bool), w32.drew.cell? (p8.add 3) = some (.bool x38) ∧ Does Try.prog 40 #[.bool x34] w32.drew (fun v w40 => ∃ (x41 : Int), v = .int .u64 x41 ∧ w40.cell? (p8.add 2) = some (.bool x36) ∧ w40.cell? (p8.add 3) = some (.bool x38) ∧ Does Try.prog 17 #[.pointer w21, .int .u64 x41, .int .i64 1] w40 (fun v w44 => ∃ (x45 : Option Addr), v = .pointer x45 ∧ w44.cell? (p8.add 2) = some (.bool x36) ∧ w44.cell? (p8.add 3) = some (.bool x38) ∧ Does Try.prog 40 #[.bool x36] w44 (fun v w48 => ∃ (x49 : Int), v = .int .u64 x49 ∧ w48.cell? (p8.add 3) = some (.bool x38) ∧ Does Try.prog 17 #[.pointer x45, .int .u64 x49, .int .i64 1] w48 (fun v w51 => ∃ (x52 : Option Addr), v = .pointer x52 ∧ w51.cell? (p8.add 3) = some (.bool x38) ∧ Does Try.prog 40 #[.bool x38] w51 (fun v w54 => ∃ (x55 : Int), v = .int .u64 x55 ∧ Does Try.prog 17 #[.pointer x52, .int .u64 x55, .int .i64 1] w54 (fun v w56 => ∃ (x57 : Option Addr), v = .pointer x57 ∧ ∃ (x58 : Int), w56.drew.cell? (p8.add 4) = some (.int .i64 x58) ∧ ∃ (x60 : Int), w56.drew.cell? (p8.add 5) = some (.int .i64 x60) ∧ Does Try.prog 17 #[.pointer w21, .int .u64 (IntKind.u64.wrap x58), .int .i64 2] w56.drew (fun v w62 => ∃ (x63 : Option Addr), v = .pointer x63 ∧ w62.cell? (p8.add 5) = some (.int .i64 x60) ∧ Does Try.prog 17 #[.pointer x63, .int .u64 0, .int .i64 1] w62 (fun v w65 => ∃ (x66 : Option Addr), v = .pointer x66 ∧ w65.cell? (p8.add 5) = some (.int .i64 x60) ∧ Does Try.prog 17 #[.pointer x66, .int .u64 (IntKind.u64.wrap x60), .int .i64 8] w65 (fun v w68 => ∃ (x69 : Option Addr), v = .pointer x69 ∧ Does Try.prog 21 #[.pointer w21] w68 (fun v w70 => ∃ (t_a71 : Option Addr) (t_n72 t_c73 : Nat), v = .slice t_a71 t_n72 t_c73 ∧ k (.tuple #[.slice t_a71 t_n72 t_c73, .int .i64 0]) w70)))))))))))))))))
set_option maxRecDepth 100000 in
set_option maxHeartbeats 2000000 in
theorem w18 (c1 : Int) (c2 : Bool) (c3 : Bool) (c4 : Bool) (c5 : Int) (c6 : Int) (w7 : World) (k : Value → World → Prop) (h : F18 c1 c2 c3 c4 c5 c6 w7 k) : Does Try.prog 18 #[.agg #[.int .i64 c1, .bool c2, .bool c3, .bool c4, .int .i64 c5, .int .i64 c6]] w7 k := by
  refine enter 42 Try.func18 rfl rfl rfl ?_
  intro ρ hρ
  have e0 := hρ 0 _ rfl
  unfold F18 at h
  refine WC_seq ?_
  refine WC_region ?_
  have h := New.out h
  refine WL_val gd0 (o_box (v := .agg #[.int .i64 c1, .bool c2, .bool c3, .bool c4, .int .i64 c5, .int .i64 c6]) (cs := [.int .i64 c1, .bool c2, .bool c3, .bool c4, .int .i64 c5, .int .i64 c6]) (by exact e0) rfl) rfl ?_
  generalize hp8 : fresh w7 = p8 at h ⊢
  generalize hw9 : push w7 24 [.int .i64 c1, .bool c2, .bool c3, .bool c4, .int .i64 c5, .int .i64 c6] = w9 at h ⊢
  try dsimp only at h
  refine WL_val gd0 ((o_assign (v := .slice none 0 0) rfl) _) rfl ?_
  refine WL_val gd0 ((o_assign (v := .int .i64 0) rfl) _) rfl ?_
  refine WL_nil ?_
  refine nrm ?_
  refine WC_seq ?_
  refine WC_seq ?_
  refine WC_region ?_
  obtain ⟨x10, x11, x12, x13, x14, x15, hc16, h⟩ := h
  refine WL_val gd0 (o_loadAgg (vs := [.int .i64 x10, .bool x11, .bool x12, .bool x13, .int .i64 x14, .int .i64 x15]) Try.isAgg24 Try.sizeOf24 rfl hc16) rfl ?_
  refine WL_call gd0 (o_call Try.call27 (argCons rfl argNil) _) rfl (h.mono ?_)
  rintro _ w17 ⟨x18, rfl, h⟩
  refine WL_val gd0 ((o_not rfl) _) rfl ?_
  refine WL_nil ?_
  refine nrm ?_
  refine WC_cond (t := (!x18)) rfl (fun hb19 => ?_) (fun hb19 => ?_)
  · rw [if_pos hb19] at h
    refine WC_seq ?_
    refine WC_region ?_
    refine WL_val gd0 ((o_assign (v := .slice none 0 0) rfl) _) rfl ?_
    refine WL_val gd0 ((o_assign (v := .int .i64 1) rfl) _) rfl ?_
    refine WL_nil ?_
    refine nrm ?_
    refine WC_ret ?_
    refine rtT ?_
    refine rtE ?_
    exact gv2 rfl rfl rfl h
  · rw [if_neg (neT hb19)] at h
    refine WC_skip ?_
    refine nrm ?_
    refine WC_seq ?_
    refine WC_region ?_
    refine WL_call gd0 (o_call Try.call16 argNil _) rfl (h.mono ?_)
    rintro _ w20 ⟨w21, rfl, h⟩
    refine WL_val gd0 ((o_assign (v := .pointer w21) rfl) _) rfl ?_
    refine WL_nil ?_
    refine nrm ?_
    refine WC_seq ?_
    refine WC_draws [1, 2, 6, 7] (.look 0 (.look 3 (.look 4 (.look 5 (.act 1 (.act 2 (.act 6 (.act 7 .nil)))))))) Try.mixed (by kernel_rfl) ?_
    refine WQ_val rfl gd0 (o_move (v := .pointer w21) rfl) rfl ?_
    refine WQ_val rfl gd0 (o_fieldAddr0 Try.underlying24 rfl Try.sizeOf3 rfl rfl rfl) rfl ?_
    obtain ⟨x22, hc23, h⟩ := h
    refine WQ_look (fun w => w.cell? p8 = some (.int .i64 x22)) rfl gd0 (fun w hc => (o_load Try.isAgg3 rfl hc)) hc23 rfl ?_
    refine WQ_val rfl gd0 (o_conv Try.underlying3 Try.underlying41 rfl) rfl ?_
    refine WQ_call rfl gd0 (o_call Try.call17 (argCons rfl (argCons rfl (argCons rfl argNil))) _) rfl (h.mono ?_)
    rintro _ w24 ⟨x25, rfl, hh26, h⟩
    refine ⟨⟨trivial, fun _ => hh26⟩, ?_⟩
    refine WQ_call rfl gd0 (o_call Try.call17 (argCons rfl (argCons rfl (argCons rfl argNil))) _) rfl (h.mono ?_)
    rintro _ w27 ⟨x28, rfl, hh29, h⟩
    refine ⟨⟨trivial, fun _ => hh29⟩, ?_⟩
    refine WQ_call rfl gd0 (o_call Try.call17 (argCons rfl (argCons rfl (argCons rfl argNil))) _) rfl (h.mono ?_)
    rintro _ w30 ⟨x31, rfl, h⟩
    refine ⟨⟨trivial, depT (by kernel_rfl)⟩, ?_⟩
    refine WQ_call rfl gd0 (o_call Try.call17 (argCons rfl (argCons rfl (argCons rfl argNil))) _) rfl (h.mono ?_)
    rintro _ w32 ⟨x33, rfl, h⟩
    refine ⟨⟨trivial, depT (by kernel_rfl)⟩, ?_⟩
    refine WQ_nil ?_
    refine nrm ?_
    refine WC_seq ?_
    refine WC_draws [3, 4, 7, 8, 11, 12] (.look 0 (.look 1 (.look 2 (.look 5 (.look 6 (.look 9 (.look 10 (.act 3 (.act 4 (.act 7 (.act 8 (.act 11 (.act 12 .nil))))))))))))) Try.mixed (by kernel_rfl) ?_
    refine WQ_val rfl gd0 (o_move (v := .pointer w21) rfl) rfl ?_
    refine WQ_val rfl gd0 (o_fieldAddr 1 Try.underlying24 rfl Try.sizeOf4 rfl rfl rfl) rfl ?_
    obtain ⟨x34, hc35, h⟩ := h
    refine WQ_look (fun w => w.cell? (p8.add 1) = some (.bool x34)) rfl gd0 (fun w hc => (o_load Try.isAgg4 rfl hc)) hc35 rfl ?_
    refine WQ_val rfl gd0 (o_fieldAddr 2 Try.underlying24 rfl Try.sizeOf4 rfl rfl rfl) rfl ?_
    obtain ⟨x36, hc37, h⟩ := h
    refine WQ_look (fun w => w.cell? (p8.add 2) = some (.bool x36)) rfl gd0 (fun w hc => (o_load Try.isAgg4 rfl hc)) hc37 rfl ?_
    refine WQ_val rfl gd0 (o_fieldAddr 3 Try.underlying24 rfl Try.sizeOf4 rfl rfl rfl) rfl ?_
    obtain ⟨x38, hc39, h⟩ := h
    refine WQ_look (fun w => w.cell? (p8.add 3) = some (.bool x38)) rfl gd0 (fun w hc => (o_load Try.isAgg4 rfl hc)) hc39 rfl ?_
    refine WQ_call rfl gd0 (o_call Try.call40 (argCons rfl argNil) _) rfl (h.mono ?_)
    rintro _ w40 ⟨x41, rfl, hh42, hh43, h⟩
    refine ⟨⟨⟨⟨trivial, depT (by kernel_rfl)⟩, fun _ => hh42⟩, fun _ => hh43⟩, ?_⟩
    refine WQ_call rfl gd0 (o_call Try.call17 (argCons rfl (argCons rfl (argCons rfl argNil))) _) rfl (h.mono ?_)
    rintro _ w44 ⟨x45, rfl, hh46, hh47, h⟩
    refine ⟨⟨⟨⟨trivial, depT (by kernel_rfl)⟩, fun _ => hh46⟩, fun _ => hh47⟩, ?_⟩
    refine WQ_call rfl gd0 (o_call Try.call40 (argCons rfl argNil) _) rfl (h.mono ?_)
    rintro _ w48 ⟨x49, rfl, hh50, h⟩
    refine ⟨⟨⟨⟨trivial, depT (by kernel_rfl)⟩, depT (by kernel_rfl)⟩, fun _ => hh50⟩, ?_⟩
    refine WQ_call rfl gd0 (o_call Try.call17 (argCons rfl (argCons rfl (argCons rfl argNil))) _) rfl (h.mono ?_)
    rintro _ w51 ⟨x52, rfl, hh53, h⟩
    refine ⟨⟨⟨⟨trivial, depT (by kernel_rfl)⟩, depT (by kernel_rfl)⟩, fun _ => hh53⟩, ?_⟩
    refine WQ_call rfl gd0 (o_call Try.call40 (argCons rfl argNil) _) rfl (h.mono ?_)
    rintro _ w54 ⟨x55, rfl, h⟩
    refine ⟨⟨⟨⟨trivial, depT (by kernel_rfl)⟩, depT (by kernel_rfl)⟩, depT (by kernel_rfl)⟩, ?_⟩
    refine WQ_call rfl gd0 (o_call Try.call17 (argCons rfl (argCons rfl (argCons rfl argNil))) _) rfl (h.mono ?_)
    rintro _ w56 ⟨x57, rfl, h⟩
    refine ⟨⟨⟨⟨trivial, depT (by kernel_rfl)⟩, depT (by kernel_rfl)⟩, depT (by kernel_rfl)⟩, ?_⟩
    refine WQ_nil ?_
    refine nrm ?_
    refine WC_seq ?_
    refine WC_draws [4, 5, 9] (.look 0 (.look 1 (.look 2 (.look 3 (.look 6 (.look 7 (.look 8 (.act 4 (.act 5 (.act 9 .nil)))))))))) Try.mixed (by kernel_rfl) ?_
    refine WQ_val rfl gd0 (o_move (v := .pointer w21) rfl) rfl ?_
    refine WQ_val rfl gd0 (o_fieldAddr 4 Try.underlying24 rfl Try.sizeOf3 rfl rfl rfl) rfl ?_
    obtain ⟨x58, hc59, h⟩ := h
    refine WQ_look (fun w => w.cell? (p8.add 4) = some (.int .i64 x58)) rfl gd0 (fun w hc => (o_load Try.isAgg3 rfl hc)) hc59 rfl ?_
    refine WQ_val rfl gd0 (o_conv Try.underlying3 Try.underlying41 rfl) rfl ?_
    refine WQ_val rfl gd0 (o_fieldAddr 5 Try.underlying24 rfl Try.sizeOf3 rfl rfl rfl) rfl ?_
    obtain ⟨x60, hc61, h⟩ := h
    refine WQ_look (fun w => w.cell? (p8.add 5) = some (.int .i64 x60)) rfl gd0 (fun w hc => (o_load Try.isAgg3 rfl hc)) hc61 rfl ?_
    refine WQ_val rfl gd0 (o_conv Try.underlying3 Try.underlying41 rfl) rfl ?_
    refine WQ_call rfl gd0 (o_call Try.call17 (argCons rfl (argCons rfl (argCons rfl argNil))) _) rfl (h.mono ?_)
    rintro _ w62 ⟨x63, rfl, hh64, h⟩
    refine ⟨⟨⟨trivial, depT (by kernel_rfl)⟩, fun _ => hh64⟩, ?_⟩
    refine WQ_call rfl gd0 (o_call Try.call17 (argCons rfl (argCons rfl (argCons rfl argNil))) _) rfl (h.mono ?_)
    rintro _ w65 ⟨x66, rfl, hh67, h⟩
    refine ⟨⟨⟨trivial, depT (by kernel_rfl)⟩, fun _ => hh67⟩, ?_⟩
    refine WQ_call rfl gd0 (o_call Try.call17 (argCons rfl (argCons rfl (argCons rfl argNil))) _) rfl (h.mono ?_)
    rintro _ w68 ⟨x69, rfl, h⟩
    refine ⟨⟨⟨trivial, depT (by kernel_rfl)⟩, depT (by kernel_rfl)⟩, ?_⟩
    refine WQ_nil ?_
    refine nrm ?_
    refine WC_seq ?_
    refine WC_region ?_
    refine WL_val gd0 ((o_move (v := .pointer w21) rfl) _) rfl ?_
    refine WL_call gd0 (o_call Try.call21 (argCons rfl argNil) _) rfl (h.mono ?_)
    rintro _ w70 ⟨t_a71, t_n72, t_c73, rfl, h⟩
    refine WL_val gd0 ((o_assign (v := .slice t_a71 t_n72 t_c73) rfl) _) rfl ?_
    refine WL_val gd0 ((o_assign (v := .int .i64 0) rfl) _) rfl ?_
    refine WL_nil ?_
    refine nrm ?_
    refine WC_ret ?_
    refine rtE ?_
    exact gv2 rfl rfl rfl h

/-- spacecraft crc.Append16 -/
def F19 (b_a1 : Option Addr) (b_n2 : Nat) (b_c3 : Nat) (w4 : World) (k : Value → World → Prop) : Prop :=
  Does Try.prog 41 #[.slice b_a1 b_n2 b_c3] w4 (fun v w5 => ∃ (s6 : Int), v = .int .u16 s6 ∧ Does Try.prog 42 #[.slice b_a1 b_n2 b_c3] w5 (fun v w7 => ∃ (x_a8 : Option Addr) (x_n9 x_c10 : Nat), v = .slice x_a8 x_n9 x_c10 ∧ New w7 5 [.int .u8 (IntKind.u8.wrap (shr .u16 s6 8)), .int .u8 (IntKind.u8.wrap s6)] (fun p11 w12 => ∃ (b_a13 : Option Addr) (b_n14 b_c15 : Nat) (w16 : World), (Builtin.append_ #[22, 22] 22 #[.slice x_a8 x_n9 x_c10, .slice (some p11) 2 2]).run Try.prog w12 = .ok (.slice b_a13 b_n14 b_c15) w16 ∧ k (.slice b_a13 b_n14 b_c15) w16)))
set_option maxRecDepth 100000 in
set_option maxHeartbeats 2000000 in
theorem w19 (b_a1 : Option Addr) (b_n2 : Nat) (b_c3 : Nat) (w4 : World) (k : Value → World → Prop) (h : F19 b_a1 b_n2 b_c3 w4 k) : Does Try.prog 19 #[.slice b_a1 b_n2 b_c3] w4 k := by
  refine enter 15 Try.func19 rfl rfl rfl ?_
  intro ρ hρ
  have e0 := hρ 0 _ rfl
  unfold F19 at h
  refine WC_seq ?_
  refine WC_region ?_
  refine WL_val gd0 ((o_assign (v := .slice none 0 0) rfl) _) rfl ?_
  refine WL_nil ?_
  refine nrm ?_
  refine WC_seq ?_
  refine WC_region ?_
  refine WL_val gd0 ((o_move (v := .slice b_a1 b_n2 b_c3) (by exact e0)) _) rfl ?_
  refine WL_call gd0 (o_call Try.call41 (argCons rfl argNil) _) rfl (h.mono ?_)
  rintro _ w5 ⟨s6, rfl, h⟩
  refine WL_val gd0 ((o_assign (v := .int .u16 s6) rfl) _) rfl ?_
  refine WL_nil ?_
  refine nrm ?_
  refine WC_seq ?_
  refine WC_region ?_
  refine WL_val gd0 ((o_move (v := .slice b_a1 b_n2 b_c3) (by exact e0)) _) rfl ?_
  refine WL_call gd0 (o_call Try.call42 (argCons rfl argNil) _) rfl (h.mono ?_)
  rintro _ w7 ⟨x_a8, x_n9, x_c10, rfl, h⟩
  refine WL_val gd0 ((o_move (v := .int .u16 s6) rfl) _) rfl ?_
  refine WL_val gd0 ((o_shr rfl rfl (by decide)) _) rfl ?_
  refine WL_val gd0 ((o_conv Try.underlying50 Try.underlying5 rfl) _) rfl ?_
  refine WL_val gd0 ((o_move (v := .int .u16 s6) rfl) _) rfl ?_
  refine WL_val gd0 ((o_conv Try.underlying50 Try.underlying5 rfl) _) rfl ?_
  have h := New.out h
  refine WL_val gd0 (o_buildSlice (e := 5) (ps := [(0, .int .u8 (IntKind.u8.wrap (shr .u16 s6 8))), (1, .int .u8 (IntKind.u8.wrap s6))]) (cs := [.int .u8 (IntKind.u8.wrap (shr .u16 s6 8)), .int .u8 (IntKind.u8.wrap s6)]) (partCons rfl (partCons rfl partNil)) (fun w => by kernel_rfl)) rfl ?_
  generalize hp11 : fresh w7 = p11 at h ⊢
  generalize hw12 : push w7 5 [.int .u8 (IntKind.u8.wrap (shr .u16 s6 8)), .int .u8 (IntKind.u8.wrap s6)] = w12 at h ⊢
  try dsimp only at h
  obtain ⟨b_a13, b_n14, b_c15, w16, r17, h⟩ := h
  refine WL_val gd0 (o_append rfl rfl r17) rfl ?_
  refine WL_val gd0 ((o_assign (v := .slice b_a13 b_n14 b_c15) rfl) _) rfl ?_
  refine WL_nil ?_
  refine nrm ?_
  refine WC_ret ?_
  refine rtE ?_
  exact gv1 rfl rfl h

def F20_j3 (n33 : Int) (v_n46 : Nat) (t37 : Int) (w56 : World) (nx38 : Int → Int → World → Prop) : Prop :=
  nx38 (IntKind.i64.wrap (n33 + (v_n46 : Int))) (IntKind.i64.wrap (t37 + 1)) w56
def F20_b4 (s_n2 : Nat) (s_a1 : Option Addr) (s_c3 : Nat) (n33 : Int) (x_a58 : Option Addr) (sep_a4 : Option Addr) (sep_n5 : Nat) (sep_c6 : Nat) (bp82 : Int) (t86 : Int) (w87 : World) (nx87 : Int → Int → World → Prop) (k : Value → World → Prop) : Prop :=
  if t86 < ((s_n2 - (1 : Int).toNat : Nat) : Int) then
  ∃ (p92 : Addr), cutA s_a1 s_c3 ((1 : Int).toNat) 1 = some p92 ∧ (0 : Int) ≤ t86 ∧ t86 < ((s_n2 - (1 : Int).toNat : Nat) : Int) ∧ ∃ (v_a94 : Option Addr) (v_n95 v_c96 : Nat), w87.cell? (p92.add t86.toNat) = some (.slice v_a94 v_n95 v_c96) ∧ (0 : Int) ≤ bp82 ∧ bp82 ≤ (n33.toNat : Int) ∧ ∃ (n100 : Int) (w101 : World), (Builtin.copy_ #[22, 22] 3 #[.slice (cutA x_a58 n33.toNat bp82.toNat 1) (n33.toNat - bp82.toNat) (n33.toNat - bp82.toNat), .slice sep_a4 sep_n5 sep_c6]).run Try.prog w87 = .ok (.int .i64 n100) w101 ∧ (0 : Int) ≤ IntKind.i64.wrap (bp82 + n100) ∧ IntKind.i64.wrap (bp82 + n100) ≤ (n33.toNat : Int) ∧ ∃ (n105 : Int) (w106 : World), (Builtin.copy_ #[22, 22] 3 #[.slice (cutA x_a58 n33.toNat ((IntKind.i64.wrap (bp82 + n100)).toNat) 1) (n33.toNat - (IntKind.i64.wrap (bp82 + n100)).toNat) (n33.toNat - (IntKind.i64.wrap (bp82 + n100)).toNat), .slice v_a94 v_n95 v_c96]).run Try.prog w101 = .ok (.int .i64 n105) w106 ∧ nx87 (IntKind.i64.wrap ((IntKind.i64.wrap (bp82 + n100)) + n105)) (IntKind.i64.wrap (t86 + 1)) w106
else
  k (.slice x_a58 n33.toNat n33.toNat) w87
def F20_b2 (s_n2 : Nat) (s_a1 : Option Addr) (s_c3 : Nat) (sep_a4 : Option Addr) (sep_n5 : Nat) (sep_c6 : Nat) (n33 : Int) (t37 : Int) (w38 : World) (nx38 : Int → Int → World → Prop) (k : Value → World → Prop) : Prop :=
  if t37 < (s_n2 : Int) then
  ∃ (p43 : Addr), s_a1 = some p43 ∧ (0 : Int) ≤ t37 ∧ t37 < (s_n2 : Int) ∧ ∃ (v_a45 : Option Addr) (v_n46 v_c47 : Nat), w38.cell? (p43.add t37.toNat) = some (.slice v_a45 v_n46 v_c47) ∧ if (IntKind.i64.wrap (9223372036854775807 - n33)) < (v_n46 : Int) then
    False
  else
    F20_j3 n33 v_n46 t37 w38 nx38
else
  ∃ (x_a58 : Option Addr) (x_n59 x_c60 : Nat) (w61 : World), (callFunc 43 #[.int .i64 n33]).run Try.prog w38 = .ok (.value (.slice x_a58 x_n59 x_c60)) w61 ∧ (0 : Int) ≤ n33 ∧ n33 ≤ (n33 : Int) ∧ n33 ≤ (x_c60 : Int) ∧ ∃ (p68 : Addr), s_a1 = some p68 ∧ (0 : Int) ≤ 0 ∧ 0 < (s_n2 : Int) ∧ ∃ (x_a70 : Option Addr) (x_n71 x_c72 : Nat), w61.cell? (p68.add ((0 : Int).toNat)) = some (.slice x_a70 x_n71 x_c72) ∧ ∃ (n74 : Int) (w75 : World), (Builtin.copy_ #[22, 22] 3 #[.slice x_a58 n33.toNat n33.toNat, .slice x_a70 x_n71 x_c72]).run Try.prog w61 = .ok (.int .i64 n74) w75 ∧ (0 : Int) ≤ 1 ∧ 1 ≤ (s_n2 : Int) ∧ LoopP (fun (s : Int × Int) w' nx' => F20_b4 s_n2 s_a1 s_c3 n33 x_a58 sep_a4 sep_n5 sep_c6 (s.1) (s.2) w' (fun x0 x1 w => nx' (x0, x1) w) k) (n74, 0) w75
def F20_j1 (s_n2 : Nat) (s_a1 : Option Addr) (s_c3 : Nat) (sep_a4 : Option Addr) (sep_n5 : Nat) (sep_c6 : Nat) (n28 : Int) (w29 : World) (k : Value → World → Prop) : Prop :=
  LoopP (fun (s : Int × Int) w' nx' => F20_b2 s_n2 s_a1 s_c3 sep_a4 sep_n5 sep_c6 (s.1) (s.2) w' (fun x0 x1 w => nx' (x0, x1) w) k) (n28, 0) w29
def F20_j5 (s_n2 : Nat) (s_a1 : Option Addr) (s_c3 : Nat) (sep_a4 : Option Addr) (sep_n5 : Nat) (sep_c6 : Nat) (w112 : World) (k : Value → World → Prop) : Prop :=
  F20_j1 s_n2 s_a1 s_c3 sep_a4 sep_n5 sep_c6 (IntKind.i64.wrap (0 + (IntKind.i64.wrap ((sep_n5 : Int) * (IntKind.i64.wrap ((s_n2 : Int) - 1)))))) w112 k
/-- bytes.Join -/
def F20 (s_a1 : Option Addr) (s_n2 : Nat) (s_c3 : Nat) (sep_a4 : Option Addr) (sep_n5 : Nat) (sep_c6 : Nat) (w7 : World) (k : Value → World → Prop) : Prop :=
  if (s_n2 : Int) = 0 then
  New w7 5 [] (fun p9 w10 => k (.slice (some p9) 0 0) w10)
else
  if (s_n2 : Int) = 1 then
    ∃ (p14 : Addr), s_a1 = some p14 ∧ (0 : Int) ≤ 0 ∧ 0 < (s_n2 : Int) ∧ ∃ (x_a16 : Option Addr) (x_n17 x_c18 : Nat), w7.cell? (p14.add ((0 : Int).toNat)) = some (.slice x_a16 x_n17 x_c18) ∧ ∃ (b_a20 : Option Addr) (b_n21 b_c22 : Nat) (w23 : World), (Builtin.append_ #[22, 22] 22 #[.slice none 0 0, .slice x_a16 x_n17 x_c18]).run Try.prog w7 = .ok (.slice b_a20 b_n21 b_c22) w23 ∧ k (.slice b_a20 b_n21 b_c22) w23
  else
    if 0 < (sep_n5 : Int) then
      IntKind.i64.wrap ((s_n2 : Int) - 1) ≠ 0 ∧ if (IntKind.i64.wrap (Int.tdiv 9223372036854775807 (IntKind.i64.wrap ((s_n2 : Int) - 1)))) ≤ (sep_n5 : Int) then
        False
      else
        F20_j5 s_n2 s_a1 s_c3 sep_a4 sep_n5 sep_c6 w7 k
    else
      F20_j1 s_n2 s_a1 s_c3 sep_a4 sep_n5 sep_c6 0 w7 k
set_option maxRecDepth 100000 in
set_option maxHeartbeats 2000000 in
theorem w20 (s_a1 : Option Addr) (s_n2 : Nat) (s_c3 : Nat) (sep_a4 : Option Addr) (sep_n5 : Nat) (sep_c6 : Nat) (w7 : World) (k : Value → World → Prop) (h : F20 s_a1 s_n2 s_c3 sep_a4 sep_n5 sep_c6 w7 k) : Does Try.prog 20 #[.slice s_a1 s_n2 s_c3, .slice sep_a4 sep_n5 sep_c6] w7 k := by
  refine enter 92 Try.func20 rfl rfl rfl ?_
  intro ρ hρ
  have e0 := hρ 0 _ rfl
  have e1 := hρ 1 _ rfl
  unfold F20 at h
  refine WC_seq ?_
  refine WC_region ?_
  refine WL_val gd0 ((o_assign (v := .slice none 0 0) rfl) _) rfl ?_
  refine WL_nil ?_
  refine nrm ?_
  refine WC_seq ?_
  refine WC_seq ?_
  refine WC_region ?_
  refine WL_val gd0 ((o_move (v := .slice s_a1 s_n2 s_c3) (by exact e0)) _) rfl ?_
  refine WL_val gd0 ((o_len Try.underlying46 rfl) _) rfl ?_
  refine WL_val gd0 ((o_eql rfl rfl) _) rfl ?_
  refine WL_nil ?_
  refine nrm ?_
  refine WC_cond (t := (decide ((s_n2 : Int) = 0))) rfl (fun hb8 => ?_) (fun hb8 => ?_)
  · rw [if_pos (of_decide_eq_true hb8)] at h
    refine WC_seq ?_
    refine WC_region ?_
    have h := New.out h
    refine WL_val gd0 (o_buildSlice (e := 5) (ps := []) (cs := []) partNil (fun w => by kernel_rfl)) rfl ?_
    generalize hp9 : fresh w7 = p9 at h ⊢
    generalize hw10 : push w7 5 [] = w10 at h ⊢
    try dsimp only at h
    refine WL_val gd0 ((o_assign (v := .slice (some p9) 0 0) rfl) _) rfl ?_
    refine WL_nil ?_
    refine nrm ?_
    refine WC_ret ?_
    refine rtT ?_
    refine rtE ?_
    exact gv1 rfl rfl h
  · rw [if_neg (of_decide_eq_false hb8)] at h
    refine WC_skip ?_
    refine nrm ?_
    refine WC_seq ?_
    refine WC_seq ?_
    refine WC_region ?_
    refine WL_val gd0 ((o_move (v := .slice s_a1 s_n2 s_c3) (by exact e0)) _) rfl ?_
    refine WL_val gd0 ((o_len Try.underlying46 rfl) _) rfl ?_
    refine WL_val gd0 ((o_eql rfl rfl) _) rfl ?_
    refine WL_nil ?_
    refine nrm ?_
    refine WC_cond (t := (decide ((s_n2 : Int) = 1))) rfl (fun hb11 => ?_) (fun hb11 => ?_)
    · rw [if_pos (of_decide_eq_true hb11)] at h
      refine WC_seq ?_
      refine WC_region ?_
      refine WL_val gd0 ((o_move (v := .slice s_a1 s_n2 s_c3) (by exact e0)) _) rfl ?_
      obtain ⟨p14, q15, h⟩ := h
      obtain ⟨l12, u13, h⟩ := h
      refine WL_val gd0 ((o_indexAddr1 Try.underlying46 Try.sizeOf22 (by exact (congrArg (fun z => Value.slice z s_n2 s_c3) q15)) rfl l12 u13) _) rfl ?_
      obtain ⟨x_a16, x_n17, x_c18, hc19, h⟩ := h
      refine WL_val gd0 (o_load Try.isAgg22 rfl hc19) rfl ?_
      obtain ⟨b_a20, b_n21, b_c22, w23, r24, h⟩ := h
      refine WL_val gd0 (o_append rfl rfl r24) rfl ?_
      refine WL_val gd0 ((o_assign (v := .slice b_a20 b_n21 b_c22) rfl) _) rfl ?_
      refine WL_nil ?_
      refine nrm ?_
      refine WC_ret ?_
      refine rtT ?_
      refine rtE ?_
      exact gv1 rfl rfl h
    · rw [if_neg (of_decide_eq_false hb11)] at h
      refine WC_skip ?_
      refine nrm ?_
      refine WC_seq ?_
      refine WC_region ?_
      refine WL_val gd0 ((o_assign (v := .int .i64 0) rfl) _) rfl ?_
      refine WL_nil ?_
      refine nrm ?_
      refine WC_cut (fun ρ w' => ∃ (n28 : Int), ρ 5 = .int .i64 n28 ∧ ρ 0 = .slice s_a1 s_n2 s_c3 ∧ ρ 1 = .slice sep_a4 sep_n5 sep_c6 ∧ F20_j1 s_n2 s_a1 s_c3 sep_a4 sep_n5 sep_c6 n28 w' k) ?_ ?_
      · refine WC_seq ?_
        refine WC_region ?_
        refine WL_val gd0 ((o_move (v := .slice sep_a4 sep_n5 sep_c6) (by exact e1)) _) rfl ?_
        refine WL_val gd0 ((o_len Try.underlying22 rfl) _) rfl ?_
        refine WL_val gd0 ((o_gtr rfl rfl) _) rfl ?_
        refine WL_nil ?_
        refine nrm ?_
        refine WC_cond (t := (decide (0 < (sep_n5 : Int)))) rfl (fun hb108 => ?_) (fun hb108 => ?_)
        · rw [if_pos (of_decide_eq_true hb108)] at h
          refine WC_cut (fun ρ w' => ρ 0 = .slice s_a1 s_n2 s_c3 ∧ ρ 1 = .slice sep_a4 sep_n5 sep_c6 ∧ ρ 5 = .int .i64 0 ∧ F20_j5 s_n2 s_a1 s_c3 sep_a4 sep_n5 sep_c6 w' k) ?_ ?_
          · refine WC_seq ?_
            refine WC_region ?_
            refine WL_val gd0 ((o_move (v := .slice sep_a4 sep_n5 sep_c6) (by exact e1)) _) rfl ?_
            refine WL_val gd0 ((o_len Try.underlying22 rfl) _) rfl ?_
            refine WL_val gd0 ((o_move (v := .slice s_a1 s_n2 s_c3) (by exact e0)) _) rfl ?_
            refine WL_val gd0 ((o_len Try.underlying46 rfl) _) rfl ?_
            refine WL_val gd0 ((o_sub rfl rfl) _) rfl ?_
            obtain ⟨c113, h⟩ := h
            refine WL_val gd0 ((fun w => o_quo rfl rfl w c113) _) rfl ?_
            refine WL_val gd0 ((o_geq rfl rfl) _) rfl ?_
            refine WL_nil ?_
            refine nrm ?_
            refine WC_cond (t := (decide ((IntKind.i64.wrap (Int.tdiv 9223372036854775807 (IntKind.i64.wrap ((s_n2 : Int) - 1)))) ≤ (sep_n5 : Int)))) rfl (fun hb114 => ?_) (fun hb114 => ?_)
            · rw [if_pos (of_decide_eq_true hb114)] at h
              refine WC_region ?_
              refine WL_val gd0 ((o_makeInterface (v := .string (ByteArray.mk #[98, 121, 116, 101, 115, 58, 32, 74, 111, 105, 110, 32, 111, 117, 116, 112, 117, 116, 32, 108, 101, 110, 103, 116, 104, 32, 111, 118, 101, 114, 102, 108, 111, 119])) rfl (fun w => by kernel_rfl)) _) rfl ?_
              exact h.elim
            · rw [if_neg (of_decide_eq_false hb114)] at h
              refine WC_skip ?_
              refine nrm ?_
              exact ⟨e0, e1, rfl, h⟩
          · rintro ρ w112 ⟨e0_109, e1_110, e5_111, h⟩
            unfold F20_j5 at h
            refine WC_region ?_
            refine WL_val gd0 ((o_move (v := .int .i64 0) (by exact e5_111)) _) rfl ?_
            refine WL_val gd0 ((o_move (v := .slice sep_a4 sep_n5 sep_c6) (by exact e1_110)) _) rfl ?_
            refine WL_val gd0 ((o_len Try.underlying22 rfl) _) rfl ?_
            refine WL_val gd0 ((o_move (v := .slice s_a1 s_n2 s_c3) (by exact e0_109)) _) rfl ?_
            refine WL_val gd0 ((o_len Try.underlying46 rfl) _) rfl ?_
            refine WL_val gd0 ((o_sub rfl rfl) _) rfl ?_
            refine WL_val gd0 ((o_mul rfl rfl) _) rfl ?_
            refine WL_val gd0 ((o_add rfl rfl) _) rfl ?_
            refine WL_val gd0 ((o_assign (v := .int .i64 (IntKind.i64.wrap (0 + (IntKind.i64.wrap ((sep_n5 : Int) * (IntKind.i64.wrap ((s_n2 : Int) - 1))))))) rfl) _) rfl ?_
            refine WL_nil ?_
            refine nrm ?_
            exact ⟨_, rfl, e0_109, e1_110, h⟩
        · rw [if_neg (of_decide_eq_false hb108)] at h
          refine WC_skip ?_
          refine nrm ?_
          exact ⟨_, rfl, e0, e1, h⟩
      · rintro ρ w29 ⟨n28, e5_27, e0_25, e1_26, h⟩
        unfold F20_j1 at h
        refine WC_seq ?_
        refine WC_seq ?_
        refine WC_region ?_
        refine WL_val gd0 ((o_move (v := .slice s_a1 s_n2 s_c3) (by exact e0_25)) _) rfl ?_
        refine WL_val gd0 ((o_len Try.underlying46 rfl) _) rfl ?_
        refine WL_val gd0 ((o_move (v := .int .i64 0) rfl) _) rfl ?_
        refine WL_nil ?_
        refine nrm ?_
        refine WC_block ?_
        obtain ⟨J38, ⟨n38, h0⟩, hr38⟩ := h
        refine WC_loop (fun n ρ w' => ∃ (n33 t37 : Int), ρ 5 = .int .i64 n33 ∧ ρ 44 = .int .i64 t37 ∧ ρ 0 = .slice s_a1 s_n2 s_c3 ∧ ρ 1 = .slice sep_a4 sep_n5 sep_c6 ∧ ρ 42 = .slice s_a1 s_n2 s_c3 ∧ ρ 43 = .int .i64 (s_n2 : Int) ∧ J38 n (n33, t37) w') ⟨n38, _, _, e5_27, rfl, e0_25, e1_26, rfl, rfl, h0⟩ ?_
        rintro n38 ρ w38 ⟨n33, t37, e5_32, e44_36, e0_30, e1_31, e42_34, e43_35, h⟩
        have h : F20_b2 s_n2 s_a1 s_c3 sep_a4 sep_n5 sep_c6 n33 t37 w38 (fun x0 x1 w => ∃ m, m < n38 ∧ J38 m (x0, x1) w) k := hr38 n38 (n33, t37) w38 h
        unfold F20_b2 at h
        refine WC_seq ?_
        refine WC_region ?_
        refine WL_val gd0 ((o_lss (by exact e44_36) (by exact e43_35)) _) rfl ?_
        refine WL_nil ?_
        refine nrm ?_
        refine WC_seq ?_
        refine WC_cond (t := (decide (t37 < (s_n2 : Int)))) rfl (fun hb40 => ?_) (fun hb40 => ?_)
        · rw [if_pos (of_decide_eq_true hb40)] at h
          refine WC_skip ?_
          refine nrm ?_
          refine WC_seq ?_
          refine WC_block ?_
          refine WC_seq ?_
          refine WC_region ?_
          obtain ⟨p43, q44, h⟩ := h
          obtain ⟨l41, u42, h⟩ := h
          refine WL_val gd0 ((o_indexAddr1 Try.underlying46 Try.sizeOf22 (by exact (Eq.trans e42_34 (congrArg (fun z => Value.slice z s_n2 s_c3) q44))) (by exact e44_36) l41 u42) _) rfl ?_
          obtain ⟨v_a45, v_n46, v_c47, hc48, h⟩ := h
          refine WL_val gd0 (o_load Try.isAgg22 rfl hc48) rfl ?_
          refine WL_val gd0 ((o_assign (v := .slice v_a45 v_n46 v_c47) rfl) _) rfl ?_
          refine WL_nil ?_
          refine nrm ?_
          refine WC_cut (fun ρ w' => ρ 0 = .slice s_a1 s_n2 s_c3 ∧ ρ 1 = .slice sep_a4 sep_n5 sep_c6 ∧ ρ 5 = .int .i64 n33 ∧ ρ 7 = .slice v_a45 v_n46 v_c47 ∧ ρ 42 = .slice s_a1 s_n2 s_c3 ∧ ρ 43 = .int .i64 (s_n2 : Int) ∧ ρ 44 = .int .i64 t37 ∧ F20_j3 n33 v_n46 t37 w' (fun x0 x1 w => ∃ m, m < n38 ∧ J38 m (x0, x1) w)) ?_ ?_
          · refine WC_seq ?_
            refine WC_region ?_
            refine WL_val gd0 ((o_move (v := .slice v_a45 v_n46 v_c47) rfl) _) rfl ?_
            refine WL_val gd0 ((o_len Try.underlying22 rfl) _) rfl ?_
            refine WL_val gd0 ((o_move (v := .int .i64 n33) (by exact e5_32)) _) rfl ?_
            refine WL_val gd0 ((o_sub rfl rfl) _) rfl ?_
            refine WL_val gd0 ((o_gtr rfl rfl) _) rfl ?_
            refine WL_nil ?_
            refine nrm ?_
            refine WC_cond (t := (decide ((IntKind.i64.wrap (9223372036854775807 - n33)) < (v_n46 : Int)))) rfl (fun hb57 => ?_) (fun hb57 => ?_)
            · rw [if_pos (of_decide_eq_true hb57)] at h
              refine WC_region ?_
              refine WL_val gd0 ((o_makeInterface (v := .string (ByteArray.mk #[98, 121, 116, 101, 115, 58, 32, 74, 111, 105, 110, 32, 111, 117, 116, 112, 117, 116, 32, 108, 101, 110, 103, 116, 104, 32, 111, 118, 101, 114, 102, 108, 111, 119])) rfl (fun w => by kernel_rfl)) _) rfl ?_
              exact h.elim
            · rw [if_neg (of_decide_eq_false hb57)] at h
              refine WC_skip ?_
              refine nrm ?_
              exact ⟨e0_30, e1_31, e5_32, rfl, e42_34, e43_35, e44_36, h⟩
          · rintro ρ w56 ⟨e0_49, e1_50, e5_51, e7_52, e42_53, e43_54, e44_55, h⟩
            unfold F20_j3 at h
            refine WC_region ?_
            refine WL_val gd0 ((o_move (v := .int .i64 n33) (by exact e5_51)) _) rfl ?_
            refine WL_val gd0 ((o_move (v := .slice v_a45 v_n46 v_c47) (by exact e7_52)) _) rfl ?_
            refine WL_val gd0 ((o_len Try.underlying22 rfl) _) rfl ?_
            refine WL_val gd0 ((o_add rfl rfl) _) rfl ?_
            refine WL_val gd0 ((o_assign (v := .int .i64 (IntKind.i64.wrap (n33 + (v_n46 : Int)))) rfl) _) rfl ?_
            refine WL_nil ?_
            refine nrmB ?_
            refine nrm ?_
            refine WC_region ?_
            refine WL_val gd0 ((o_add (by exact e44_55) rfl) _) rfl ?_
            refine WL_val gd0 ((o_move (v := .int .i64 (IntKind.i64.wrap (t37 + 1))) rfl) _) rfl ?_
            refine WL_nil ?_
            refine nrm ?_
            obtain ⟨m39, hm39, h⟩ := h
            exact ⟨m39, hm39, _, _, rfl, rfl, e0_49, e1_50, e42_53, e43_54, h⟩
        · rw [if_neg (of_decide_eq_false hb40)] at h
          refine WC_exit ?_
          refine exT ?_
          refine exT ?_
          refine exB ?_
          refine nrm ?_
          refine WC_seq ?_
          refine WC_region ?_
          refine WL_val gd0 ((o_move (v := .int .i64 n33) (by exact e5_32)) _) rfl ?_
          obtain ⟨x_a58, x_n59, x_c60, w61, r62, h⟩ := h
          refine WL_val gd0 (o_callExt (argCons rfl argNil) r62) rfl ?_
          refine WL_val gd0 ((o_move (v := .int .i64 n33) (by exact e5_32)) _) rfl ?_
          refine WL_val gd0 ((o_move (v := .int .i64 n33) (by exact e5_32)) _) rfl ?_
          obtain ⟨c63, c64, c65, h⟩ := h
          refine WL_val gd0 ((o_sliceHM Try.underlying22 Try.sizeOf5 rfl rfl rfl c63 c64 c65) _) rfl ?_
          refine WL_val gd0 ((o_assign (v := .slice x_a58 n33.toNat n33.toNat) rfl) _) rfl ?_
          refine WL_nil ?_
          refine nrm ?_
          refine WC_seq ?_
          refine WC_region ?_
          refine WL_val gd0 ((o_move (v := .slice x_a58 n33.toNat n33.toNat) rfl) _) rfl ?_
          refine WL_val gd0 ((o_move (v := .slice s_a1 s_n2 s_c3) (by exact e0_30)) _) rfl ?_
          obtain ⟨p68, q69, h⟩ := h
          obtain ⟨l66, u67, h⟩ := h
          refine WL_val gd0 ((o_indexAddr1 Try.underlying46 Try.sizeOf22 (by exact (congrArg (fun z => Value.slice z s_n2 s_c3) q69)) rfl l66 u67) _) rfl ?_
          obtain ⟨x_a70, x_n71, x_c72, hc73, h⟩ := h
          refine WL_val gd0 (o_load Try.isAgg22 rfl hc73) rfl ?_
          obtain ⟨n74, w75, r76, h⟩ := h
          refine WL_val gd0 (o_copy rfl rfl r76) rfl ?_
          refine WL_val gd0 ((o_assign (v := .int .i64 n74) rfl) _) rfl ?_
          refine WL_nil ?_
          refine nrm ?_
          refine WC_seq ?_
          refine WC_seq ?_
          refine WC_region ?_
          refine WL_val gd0 ((o_move (v := .slice s_a1 s_n2 s_c3) (by exact e0_30)) _) rfl ?_
          obtain ⟨c77, c78, h⟩ := h
          refine WL_val gd0 ((o_sliceL Try.underlying46 Try.sizeOf22 rfl rfl c77 c78) _) rfl ?_
          refine WL_val gd0 ((o_len Try.underlying46 rfl) _) rfl ?_
          refine WL_val gd0 ((o_move (v := .int .i64 0) rfl) _) rfl ?_
          refine WL_nil ?_
          refine nrm ?_
          refine WC_block ?_
          obtain ⟨J87, ⟨n87, h0⟩, hr87⟩ := h
          refine WC_loop (fun n ρ w' => ∃ (bp82 t86 : Int), ρ 9 = .int .i64 bp82 ∧ ρ 72 = .int .i64 t86 ∧ ρ 1 = .slice sep_a4 sep_n5 sep_c6 ∧ ρ 8 = .slice x_a58 n33.toNat n33.toNat ∧ ρ 70 = .slice (cutA s_a1 s_c3 ((1 : Int).toNat) 1) (s_n2 - (1 : Int).toNat) (s_c3 - (1 : Int).toNat) ∧ ρ 71 = .int .i64 ((s_n2 - (1 : Int).toNat : Nat) : Int) ∧ J87 n (bp82, t86) w') ⟨n87, _, _, rfl, rfl, e1_31, rfl, rfl, rfl, h0⟩ ?_
          rintro n87 ρ w87 ⟨bp82, t86, e9_81, e72_85, e1_79, e8_80, e70_83, e71_84, h⟩
          have h : F20_b4 s_n2 s_a1 s_c3 n33 x_a58 sep_a4 sep_n5 sep_c6 bp82 t86 w87 (fun x0 x1 w => ∃ m, m < n87 ∧ J87 m (x0, x1) w) k := hr87 n87 (bp82, t86) w87 h
          unfold F20_b4 at h
          refine WC_seq ?_
          refine WC_region ?_
          refine WL_val gd0 ((o_lss (by exact e72_85) (by exact e71_84)) _) rfl ?_
          refine WL_nil ?_
          refine nrm ?_
          refine WC_seq ?_
          refine WC_cond (t := (decide (t86 < ((s_n2 - (1 : Int).toNat : Nat) : Int)))) rfl (fun hb89 => ?_) (fun hb89 => ?_)
          · rw [if_pos (of_decide_eq_true hb89)] at h
            refine WC_skip ?_
            refine nrm ?_
            refine WC_seq ?_
            refine WC_block ?_
            refine WC_seq ?_
            refine WC_region ?_
            obtain ⟨p92, q93, h⟩ := h
            obtain ⟨l90, u91, h⟩ := h
            refine WL_val gd0 ((o_indexAddr1 Try.underlying46 Try.sizeOf22 (by exact (Eq.trans e70_83 (congrArg (fun z => Value.slice z (s_n2 - (1 : Int).toNat) (s_c3 - (1 : Int).toNat)) q93))) (by exact e72_85) l90 u91) _) rfl ?_
            obtain ⟨v_a94, v_n95, v_c96, hc97, h⟩ := h
            refine WL_val gd0 (o_load Try.isAgg22 rfl hc97) rfl ?_
            refine WL_val gd0 ((o_assign (v := .slice v_a94 v_n95 v_c96) rfl) _) rfl ?_
            refine WL_nil ?_
            refine nrm ?_
            refine WC_seq ?_
            refine WC_region ?_
            refine WL_val gd0 ((o_move (v := .int .i64 bp82) (by exact e9_81)) _) rfl ?_
            refine WL_val gd0 ((o_move (v := .slice x_a58 n33.toNat n33.toNat) (by exact e8_80)) _) rfl ?_
            refine WL_val gd0 ((o_move (v := .int .i64 bp82) (by exact e9_81)) _) rfl ?_
            obtain ⟨c98, c99, h⟩ := h
            refine WL_val gd0 ((o_sliceL Try.underlying22 Try.sizeOf5 rfl rfl c98 c99) _) rfl ?_
            refine WL_val gd0 ((o_move (v := .slice sep_a4 sep_n5 sep_c6) (by exact e1_79)) _) rfl ?_
            obtain ⟨n100, w101, r102, h⟩ := h
            refine WL_val gd0 (o_copy rfl rfl r102) rfl ?_
            refine WL_val gd0 ((o_add rfl rfl) _) rfl ?_
            refine WL_val gd0 ((o_assign (v := .int .i64 (IntKind.i64.wrap (bp82 + n100))) rfl) _) rfl ?_
            refine WL_nil ?_
            refine nrm ?_
            refine WC_region ?_
            refine WL_val gd0 ((o_move (v := .int .i64 (IntKind.i64.wrap (bp82 + n100))) rfl) _) rfl ?_
            refine WL_val gd0 ((o_move (v := .slice x_a58 n33.toNat n33.toNat) (by exact e8_80)) _) rfl ?_
            refine WL_val gd0 ((o_move (v := .int .i64 (IntKind.i64.wrap (bp82 + n100))) rfl) _) rfl ?_
            obtain ⟨c103, c104, h⟩ := h
            refine WL_val gd0 ((o_sliceL Try.underlying22 Try.sizeOf5 rfl rfl c103 c104) _) rfl ?_
            refine WL_val gd0 ((o_move (v := .slice v_a94 v_n95 v_c96) rfl) _) rfl ?_
            obtain ⟨n105, w106, r107, h⟩ := h
            refine WL_val gd0 (o_copy rfl rfl r107) rfl ?_
            refine WL_val gd0 ((o_add rfl rfl) _) rfl ?_
            refine WL_val gd0 ((o_assign (v := .int .i64 (IntKind.i64.wrap ((IntKind.i64.wrap (bp82 + n100)) + n105))) rfl) _) rfl ?_
            refine WL_nil ?_
            refine nrmB ?_
            refine nrm ?_
            refine WC_region ?_
            refine WL_val gd0 ((o_add (by exact e72_85) rfl) _) rfl ?_
            refine WL_val gd0 ((o_move (v := .int .i64 (IntKind.i64.wrap (t86 + 1))) rfl) _) rfl ?_
            refine WL_nil ?_
            refine nrm ?_
            obtain ⟨m88, hm88, h⟩ := h
            exact ⟨m88, hm88, _, _, rfl, rfl, e1_79, e8_80, e70_83, e71_84, h⟩
          · rw [if_neg (of_decide_eq_false hb89)] at h
            refine WC_exit ?_
            refine exT ?_
            refine exT ?_
            refine exB ?_
            refine nrm ?_
            refine WC_seq ?_
            refine WC_region ?_
            refine WL_val gd0 ((o_move (v := .slice x_a58 n33.toNat n33.toNat) (by exact e8_80)) _) rfl ?_
            refine WL_val gd0 ((o_assign (v := .slice x_a58 n33.toNat n33.toNat) rfl) _) rfl ?_
            refine WL_nil ?_
            refine nrm ?_
            refine WC_ret ?_
            refine rtE ?_
            exact gv1 rfl rfl h

/-- (*spacecraft bits.Writer).Bytes -/
def F21 (w1 : Option Addr) (w2 : World) (k : Value → World → Prop) : Prop :=
  Does Try.prog 39 #[.pointer w1] w2 (fun v w3 => ∃ (x4 : Bool), v = .bool x4 ∧ if (!x4) = true then
  k (.slice none 0 0) w3
else
  New w3 5 [] (fun p6 w7 => ∃ (p8 : Addr), w1 = some p8 ∧ ∃ (x_a10 : Option Addr) (x_n11 x_c12 : Nat), w7.cell? (p8.add 1) = some (.slice x_a10 x_n11 x_c12) ∧ ∃ (b_a14 : Option Addr) (b_n15 b_c16 : Nat) (w17 : World), (Builtin.append_ #[22, 22] 22 #[.slice (some p6) 0 0, .slice x_a10 x_n11 x_c12]).run Try.prog w7 = .ok (.slice b_a14 b_n15 b_c16) w17 ∧ k (.slice b_a14 b_n15 b_c16) w17))
set_option maxRecDepth 100000 in
set_option maxHeartbeats 2000000 in
theorem w21 (w1 : Option Addr) (w2 : World) (k : Value → World → Prop) (h : F21 w1 w2 k) : Does Try.prog 21 #[.pointer w1] w2 k := by
  refine enter 12 Try.func21 rfl rfl rfl ?_
  intro ρ hρ
  have e0 := hρ 0 _ rfl
  unfold F21 at h
  refine WC_seq ?_
  refine WC_region ?_
  refine WL_val gd0 ((o_assign (v := .slice none 0 0) rfl) _) rfl ?_
  refine WL_nil ?_
  refine nrm ?_
  refine WC_seq ?_
  refine WC_seq ?_
  refine WC_region ?_
  refine WL_val gd0 ((o_move (v := .pointer w1) (by exact e0)) _) rfl ?_
  refine WL_call gd0 (o_call Try.call39 (argCons rfl argNil) _) rfl (h.mono ?_)
  rintro _ w3 ⟨x4, rfl, h⟩
  refine WL_val gd0 ((o_not rfl) _) rfl ?_
  refine WL_nil ?_
  refine nrm ?_
  refine WC_cond (t := (!x4)) rfl (fun hb5 => ?_) (fun hb5 => ?_)
  · rw [if_pos hb5] at h
    refine WC_seq ?_
    refine WC_region ?_
    refine WL_val gd0 ((o_assign (v := .slice none 0 0) rfl) _) rfl ?_
    refine WL_nil ?_
    refine nrm ?_
    refine WC_ret ?_
    refine rtT ?_
    refine rtE ?_
    exact gv1 rfl rfl h
  · rw [if_neg (neT hb5)] at h
    refine WC_skip ?_
    refine nrm ?_
    refine WC_seq ?_
    refine WC_region ?_
    have h := New.out h
    refine WL_val gd0 (o_buildSlice (e := 5) (ps := []) (cs := []) partNil (fun w => by kernel_rfl)) rfl ?_
    generalize hp6 : fresh w3 = p6 at h ⊢
    generalize hw7 : push w3 5 [] = w7 at h ⊢
    try dsimp only at h
    refine WL_val gd0 ((o_move (v := .pointer w1) (by exact e0)) _) rfl ?_
    obtain ⟨p8, q9, h⟩ := h
    refine WL_val gd0 ((o_nilCheck (by exact (congrArg Value.pointer q9))) _) rfl ?_
    refine WL_val gd0 ((o_fieldAddr 1 Try.underlying64 rfl Try.sizeOf22 rfl rfl rfl) _) rfl ?_
    obtain ⟨x_a10, x_n11, x_c12, hc13, h⟩ := h
    refine WL_val gd0 (o_load Try.isAgg22 rfl hc13) rfl ?_
    obtain ⟨b_a14, b_n15, b_c16, w17, r18, h⟩ := h
    refine WL_val gd0 (o_append rfl rfl r18) rfl ?_
    refine WL_val gd0 ((o_assign (v := .slice b_a14 b_n15 b_c16) rfl) _) rfl ?_
    refine WL_nil ?_
    refine nrm ?_
    refine WC_ret ?_
    refine rtE ?_
    exact gv1 rfl rfl h

def F22_b1 (w1 : Option Addr) (n2 : Int) (i10 : Int) (w11 : World) (nx11 : Int → World → Prop) (k : Value → World → Prop) : Prop :=
  if 0 ≤ i10 then
  ∃ (p14 : Addr), w1 = some p14 ∧ ∃ (x_a16 : Option Addr) (x_n17 x_c18 : Nat), w11.cell? p14 = some (.slice x_a16 x_n17 x_c18) ∧ (0 : Int) ≤ IntKind.u64.wrap i10 ∧ New w11 5 [.int .u8 (IntKind.u8.wrap (Int.tmod (shr .u64 n2 (IntKind.u64.wrap i10)) 2))] (fun p21 w22 => ∃ (b_a23 : Option Addr) (b_n24 b_c25 : Nat) (w26 : World), (Builtin.append_ #[22, 22] 22 #[.slice x_a16 x_n17 x_c18, .slice (some p21) 1 1]).run Try.prog w22 = .ok (.slice b_a23 b_n24 b_c25) w26 ∧ Put w26 p14 (.slice b_a23 b_n24 b_c25) (fun w28 => nx11 (IntKind.i64.wrap (i10 - 1)) w28))
else
  k (.tuple #[]) w11
/-- (*spacecraft spacecraftref02.Writer).Put -/
def F22 (w1 : Option Addr) (n2 : Int) (width3 : Int) (w4 : World) (k : Value → World → Prop) : Prop :=
  if width3 < 0 then
  k (.tuple #[]) w4
else
  if 64 < width3 then
    k (.tuple #[]) w4
  else
    LoopP (fun (s : Int) w' nx' => F22_b1 w1 n2 s w' (fun x0 w => nx' x0 w) k) (IntKind.i64.wrap (width3 - 1)) w4
set_option maxRecDepth 100000 in
set_option maxHeartbeats 2000000 in
theorem w22 (w1 : Option Addr) (n2 : Int) (width3 : Int) (w4 : World) (k : Value → World → Prop) (h : F22 w1 n2 width3 w4 k) : Does Try.prog 22 #[.pointer w1, .int .u64 n2, .int .i64 width3] w4 k := by
  refine enter 34 Try.func22 rfl rfl rfl ?_
  intro ρ hρ
  have e0 := hρ 0 _ rfl
  have e1 := hρ 1 _ rfl
  have e2 := hρ 2 _ rfl
  unfold F22 at h
  refine WC_seq ?_
  refine WC_seq ?_
  refine WC_region ?_
  refine WL_val gd0 ((o_move (v := .int .i64 width3) (by exact e2)) _) rfl ?_
  refine WL_val gd0 ((o_lss rfl rfl) _) rfl ?_
  refine WL_val gd0 ((o_move (v := .bool (decide (width3 < 0))) rfl) _) rfl ?_
  refine bsplit (decide (width3 < 0)) (fun hb5 => ?_) (fun hb5 => ?_)
  · rw [if_pos (of_decide_eq_true hb5)] at h
    refine WL_skip (gdN (b := (decide (width3 < 0))) 9 rfl rfl hb5) rfl ?_
    refine WL_skip (gdN (b := (decide (width3 < 0))) 9 rfl rfl hb5) rfl ?_
    refine WL_val gd0 ((o_pickT (v := .bool true) rfl hb5 rfl) _) rfl ?_
    refine WL_nil ?_
    refine nrm ?_
    refine WC_cond (t := true) rfl (fun _ => ?_) (fun hx => by rw [(rfl : true = true)] at hx; cases hx)
    refine WC_ret ?_
    refine rtT ?_
    refine rtE ?_
    exact gv0 rfl h
  · rw [if_neg (of_decide_eq_false hb5)] at h
    refine WL_val (gdY (b := (decide (width3 < 0))) 9 rfl rfl hb5) ((o_move (v := .int .i64 width3) (by exact e2)) _) rfl ?_
    refine WL_val (gdY (b := (decide (width3 < 0))) 9 rfl rfl hb5) ((o_gtr rfl rfl) _) rfl ?_
    refine WL_val gd0 ((o_pickF (v := .bool (decide (64 < width3))) rfl hb5 rfl) _) rfl ?_
    refine WL_nil ?_
    refine nrm ?_
    refine WC_cond (t := (decide (64 < width3))) rfl (fun hb6 => ?_) (fun hb6 => ?_)
    · rw [if_pos (of_decide_eq_true hb6)] at h
      refine WC_ret ?_
      refine rtT ?_
      refine rtE ?_
      exact gv0 rfl h
    · rw [if_neg (of_decide_eq_false hb6)] at h
      refine WC_skip ?_
      refine nrm ?_
      refine WC_seq ?_
      refine WC_region ?_
      refine WL_val gd0 ((o_move (v := .int .i64 width3) (by exact e2)) _) rfl ?_
      refine WL_val gd0 ((o_sub rfl rfl) _) rfl ?_
      refine WL_val gd0 ((o_assign (v := .int .i64 (IntKind.i64.wrap (width3 - 1))) rfl) _) rfl ?_
      refine WL_nil ?_
      refine nrm ?_
      refine WC_block ?_
      obtain ⟨J11, ⟨n11, h0⟩, hr11⟩ := h
      refine WC_loop (fun n ρ w' => ∃ (i10 : Int), ρ 6 = .int .i64 i10 ∧ ρ 0 = .pointer w1 ∧ ρ 1 = .int .u64 n2 ∧ J11 n i10 w') ⟨n11, _, rfl, e0, e1, h0⟩ ?_
      rintro n11 ρ w11 ⟨i10, e6_9, e0_7, e1_8, h⟩
      have h : F22_b1 w1 n2 i10 w11 (fun x0 w => ∃ m, m < n11 ∧ J11 m x0 w) k := hr11 n11 i10 w11 h
      unfold F22_b1 at h
      refine WC_seq ?_
      refine WC_seq ?_
      refine WC_region ?_
      refine WL_val gd0 ((o_move (v := .int .i64 i10) (by exact e6_9)) _) rfl ?_
      refine WL_val gd0 ((o_geq rfl rfl) _) rfl ?_
      refine WL_nil ?_
      refine nrm ?_
      refine WC_cond (t := (decide (0 ≤ i10))) rfl (fun hb13 => ?_) (fun hb13 => ?_)
      · rw [if_pos (of_decide_eq_true hb13)] at h
        refine WC_skip ?_
        refine nrm ?_
        refine WC_seq ?_
        refine WC_block ?_
        refine WC_region ?_
        refine WL_val gd0 ((o_move (v := .pointer w1) (by exact e0_7)) _) rfl ?_
        refine WL_val gd0 ((o_move (v := .pointer w1) (by exact e0_7)) _) rfl ?_
        obtain ⟨p14, q15, h⟩ := h
        refine WL_val gd0 ((o_nilCheck (by exact (congrArg Value.pointer q15))) _) rfl ?_
        refine WL_val gd0 ((o_fieldAddr0 Try.underlying48 rfl Try.sizeOf22 rfl rfl rfl) _) rfl ?_
        obtain ⟨x_a16, x_n17, x_c18, hc19, h⟩ := h
        refine WL_val gd0 (o_load Try.isAgg22 rfl hc19) rfl ?_
        refine WL_val gd0 ((o_move (v := .int .u64 n2) (by exact e1_8)) _) rfl ?_
        refine WL_val gd0 ((o_move (v := .int .i64 i10) (by exact e6_9)) _) rfl ?_
        refine WL_val gd0 ((o_conv Try.underlying3 Try.underlying36 rfl) _) rfl ?_
        obtain ⟨c20, h⟩ := h
        refine WL_val gd0 ((o_shr rfl rfl c20) _) rfl ?_
        refine WL_val gd0 ((fun w => o_rem rfl rfl w (by decide)) _) rfl ?_
        refine WL_val gd0 ((o_conv Try.underlying41 Try.underlying5 rfl) _) rfl ?_
        have h := New.out h
        refine WL_val gd0 (o_buildSlice (e := 5) (ps := [(0, .int .u8 (IntKind.u8.wrap (Int.tmod (shr .u64 n2 (IntKind.u64.wrap i10)) 2)))]) (cs := [.int .u8 (IntKind.u8.wrap (Int.tmod (shr .u64 n2 (IntKind.u64.wrap i10)) 2))]) (partCons rfl partNil) (fun w => by kernel_rfl)) rfl ?_
        generalize hp21 : fresh w11 = p21 at h ⊢
        generalize hw22 : push w11 5 [.int .u8 (IntKind.u8.wrap (Int.tmod (shr .u64 n2 (IntKind.u64.wrap i10)) 2))] = w22 at h ⊢
        try dsimp only at h
        obtain ⟨b_a23, b_n24, b_c25, w26, r27, h⟩ := h
        refine WL_val gd0 (o_append rfl rfl r27) rfl ?_
        refine WL_val gd0 ((o_nilCheck (by exact (congrArg Value.pointer q15))) _) rfl ?_
        refine WL_val gd0 ((o_fieldAddr0 Try.underlying48 rfl Try.sizeOf22 rfl rfl rfl) _) rfl ?_
        obtain ⟨c29, h⟩ := h
        refine WL_act gd0 (o_store (v := .slice b_a23 b_n24 b_c25) Try.sizeOf22 rfl rfl rfl c29) ?_
        generalize hw28 : World.setCell w26 p14 (.slice b_a23 b_n24 b_c25) = w28 at h ⊢
        try dsimp only at h
        refine WL_nil ?_
        refine nrmB ?_
        refine nrm ?_
        refine WC_region ?_
        refine WL_val gd0 ((o_move (v := .int .i64 i10) (by exact e6_9)) _) rfl ?_
        refine WL_val gd0 ((o_sub rfl rfl) _) rfl ?_
        refine WL_val gd0 ((o_assign (v := .int .i64 (IntKind.i64.wrap (i10 - 1))) rfl) _) rfl ?_
        refine WL_nil ?_
        refine nrm ?_
        obtain ⟨m12, hm12, h⟩ := h
        exact ⟨m12, hm12, _, rfl, e0_7, e1_8, h⟩
      · rw [if_neg (of_decide_eq_false hb13)] at h
        refine WC_exit ?_
        refine exT ?_
        refine exT ?_
        refine exB ?_
        refine ndE ?_
        exact gv0 rfl h

/-- spacecraft spacecraftref15.Encode -/
def F23 (c1 : Int) (c2 : Bool) (c3 : Bool) (c4 : Bool) (c5 : Int) (c6 : Int) (w7 : World) (k : Value → World → Prop) : Prop :=
  New w7 24 [.int .i64 c1, .bool c2, .bool c3, .bool c4, .int .i64 c5, .int .i64 c6] (fun p8 w9 => ∃ (x10 : Int) (x11 x12 x13 : Bool) (x14 x15 : Int), Cells w9 p8 0 [.int .i64 x10, .bool x11, .bool x12, .bool x13, .int .i64 x14, .int .i64 x15] ∧ Does Try.prog 28 #[.agg #[.int .i64 x10, .bool x11, .bool x12, .bool x13, .int .i64 x14, .int .i64 x15]] w9 (fun v w17 => ∃ (x18 : Bool), v = .bool x18 ∧ if (!x18) = true then
  k (.tuple #[.slice none 0 0, .int .i64 1]) w17
else
  ∃ (x20 : Int), w17.drew.cell? p8 = some (.int .i64 x20) ∧ ∃ (x22 : Bool), w17.drew.cell? (p8.add 1) = some (.bool x22) ∧ ∃ (x24 : Bool), w17.drew.cell? (p8.add 2) = some (.bool x24) ∧ ∃ (x26 : Bool), w17.drew.cell? (p8.add 3) = some (.bool x26) ∧ ∃ (x28 : Int), w17.drew.cell? (p8.add 4) = some (.int .i64 x28) ∧ ∃ (x30 : Int), w17.drew.cell? (p8.add 5) = some (.int .i64 x30) ∧ Does Try.prog 44 #[.bool x22, .int .i64 32] w17.drew (fun v w32 => ∃ (x33 : Int), v = .int .i64 x33 ∧ w32.cell? p8 = some (.int .i64 x20) ∧ w32.cell? (p8.add 2) = some (.bool x24) ∧ w32.cell? (p8.add 3) = some (.bool x26) ∧ w32.cell? (p8.add 4) = some (.int .i64 x28) ∧ w32.cell? (p8.add 5) = some (.int .i64 x30) ∧ Does Try.prog 44 #[.bool x24, .int .i64 16] w32 (fun v w39 => ∃ (x40 : Int), v = .int .i64 x40 ∧ w39.cell? p8 = some (.int .i64 x20) ∧ w39.cell? (p8.add 3) = some (.bool x26) ∧ w39.cell? (p8.add 4) = some (.int .i64 x28) ∧ w39.cell? (p8.add 5) = some (.int .i64 x30) ∧ Does Try.prog 44 #[.bool x26, .int .i64 8] w39 (fun v w45 => ∃ (x46 : Int), v = .int .i64 x46 ∧ w45.cell? p8 = some (.int .i64 x20) ∧ w45.cell? (p8.add 4) = some (.int .i64 x28) ∧ w45.cell? (p8.add 5) = some (.int .i64 x30) ∧ New w45 5 [.int .u8 1, .int .u8 (IntKind.u8.wrap (IntKind.i64.wrap (4 * x20))), .int .u8 (IntKind.u8.wrap (IntKind.i64.wrap ((IntKind.i64.wrap ((IntKind.i64.wrap (x33 + x40)) + x46)) + (IntKind.i64.wrap (2 * x28))))), .int .u8 (IntKind.u8.wrap x30)] (fun p50 w51 => k (.tuple #[.slice (some p50) 4 4, .int .i64 0]) w51))))))
set_option maxRecDepth 100000 in
set_option maxHeartbeats 2000000 in
theorem w23 (c1 : Int) (c2 : Bool) (c3 : Bool) (c4 : Bool) (c5 : Int) (c6 : Int) (w7 : World) (k : Value → World → Prop) (h : F23 c1 c2 c3 c4 c5 c6 w7 k) : Does Try.prog 23 #[.agg #[.int .i64 c1, .bool c2, .bool c3, .bool c4, .int .i64 c5, .int .i64 c6]] w7 k := by
  refine enter 31 Try.func23 rfl rfl rfl ?_
  intro ρ hρ
  have e0 := hρ 0 _ rfl
  unfold F23 at h
  refine WC_seq ?_
  refine WC_region ?_
  have h := New.out h
  refine WL_val gd0 (o_box (v := .agg #[.int .i64 c1, .bool c2, .bool c3, .bool c4, .int .i64 c5, .int .i64 c6]) (cs := [.int .i64 c1, .bool c2, .bool c3, .bool c4, .int .i64 c5, .int .i64 c6]) (by exact e0) rfl) rfl ?_
  generalize hp8 : fresh w7 = p8 at h ⊢
  generalize hw9 : push w7 24 [.int .i64 c1, .bool c2, .bool c3, .bool c4, .int .i64 c5, .int .i64 c6] = w9 at h ⊢
  try dsimp only at h
  refine WL_val gd0 ((o_assign (v := .slice none 0 0) rfl) _) rfl ?_
  refine WL_val gd0 ((o_assign (v := .int .i64 0) rfl) _) rfl ?_
  refine WL_nil ?_
  refine nrm ?_
  refine WC_seq ?_
  refine WC_seq ?_
  refine WC_region ?_
  obtain ⟨x10, x11, x12, x13, x14, x15, hc16, h⟩ := h
  refine WL_val gd0 (o_loadAgg (vs := [.int .i64 x10, .bool x11, .bool x12, .bool x13, .int .i64 x14, .int .i64 x15]) Try.isAgg24 Try.sizeOf24 rfl hc16) rfl ?_
  refine WL_call gd0 (o_call Try.call28 (argCons rfl argNil) _) rfl (h.mono ?_)
  rintro _ w17 ⟨x18, rfl, h⟩
  refine WL_val gd0 ((o_not rfl) _) rfl ?_
  refine WL_nil ?_
  refine nrm ?_
  refine WC_cond (t := (!x18)) rfl (fun hb19 => ?_) (fun hb19 => ?_)
  · rw [if_pos hb19] at h
    refine WC_seq ?_
    refine WC_region ?_
    refine WL_val gd0 ((o_assign (v := .slice none 0 0) rfl) _) rfl ?_
    refine WL_val gd0 ((o_assign (v := .int .i64 1) rfl) _) rfl ?_
    refine WL_nil ?_
    refine nrm ?_
    refine WC_ret ?_
    refine rtT ?_
    refine rtE ?_
    exact gv2 rfl rfl rfl h
  · rw [if_neg (neT hb19)] at h
    refine WC_skip ?_
    refine nrm ?_
    refine WC_seq ?_
    refine WC_draws [6, 9, 13, 23] (.look 0 (.look 1 (.look 2 (.look 3 (.look 4 (.look 5 (.look 7 (.look 8 (.look 11 (.look 12 (.look 15 (.look 16 (.look 17 (.look 20 (.look 21 (.look 22 (.act 6 (.act 9 (.look 10 (.act 13 (.look 14 (.look 18 (.look 19 (.act 23 (.look 24 (.look 25 .nil)))))))))))))))))))))))))) Try.mixed (by kernel_rfl) ?_
    refine WQ_val rfl gd0 (o_fieldAddr0 Try.underlying24 rfl Try.sizeOf3 rfl rfl rfl) rfl ?_
    obtain ⟨x20, hc21, h⟩ := h
    refine WQ_look (fun w => w.cell? p8 = some (.int .i64 x20)) rfl gd0 (fun w hc => (o_load Try.isAgg3 rfl hc)) hc21 rfl ?_
    refine WQ_val rfl gd0 (o_mul rfl rfl) rfl ?_
    refine WQ_val rfl gd0 (o_conv Try.underlying3 Try.underlying5 rfl) rfl ?_
    refine WQ_val rfl gd0 (o_fieldAddr 1 Try.underlying24 rfl Try.sizeOf4 rfl rfl rfl) rfl ?_
    obtain ⟨x22, hc23, h⟩ := h
    refine WQ_look (fun w => w.cell? (p8.add 1) = some (.bool x22)) rfl gd0 (fun w hc => (o_load Try.isAgg4 rfl hc)) hc23 rfl ?_
    refine WQ_val rfl gd0 (o_fieldAddr 2 Try.underlying24 rfl Try.sizeOf4 rfl rfl rfl) rfl ?_
    obtain ⟨x24, hc25, h⟩ := h
    refine WQ_look (fun w => w.cell? (p8.add 2) = some (.bool x24)) rfl gd0 (fun w hc => (o_load Try.isAgg4 rfl hc)) hc25 rfl ?_
    refine WQ_val rfl gd0 (o_fieldAddr 3 Try.underlying24 rfl Try.sizeOf4 rfl rfl rfl) rfl ?_
    obtain ⟨x26, hc27, h⟩ := h
    refine WQ_look (fun w => w.cell? (p8.add 3) = some (.bool x26)) rfl gd0 (fun w hc => (o_load Try.isAgg4 rfl hc)) hc27 rfl ?_
    refine WQ_val rfl gd0 (o_fieldAddr 4 Try.underlying24 rfl Try.sizeOf3 rfl rfl rfl) rfl ?_
    obtain ⟨x28, hc29, h⟩ := h
    refine WQ_look (fun w => w.cell? (p8.add 4) = some (.int .i64 x28)) rfl gd0 (fun w hc => (o_load Try.isAgg3 rfl hc)) hc29 rfl ?_
    refine WQ_val rfl gd0 (o_mul rfl rfl) rfl ?_
    refine WQ_val rfl gd0 (o_fieldAddr 5 Try.underlying24 rfl Try.sizeOf3 rfl rfl rfl) rfl ?_
    obtain ⟨x30, hc31, h⟩ := h
    refine WQ_look (fun w => w.cell? (p8.add 5) = some (.int .i64 x30)) rfl gd0 (fun w hc => (o_load Try.isAgg3 rfl hc)) hc31 rfl ?_
    refine WQ_val rfl gd0 (o_conv Try.underlying3 Try.underlying5 rfl) rfl ?_
    refine WQ_call rfl gd0 (o_call Try.call44 (argCons rfl (argCons rfl argNil)) _) rfl (h.mono ?_)
    rintro _ w32 ⟨x33, rfl, hh34, hh35, hh36, hh37, hh38, h⟩
    refine ⟨⟨⟨⟨⟨⟨⟨trivial, fun _ => hh34⟩, depT (by kernel_rfl)⟩, fun _ => hh35⟩, fun _ => hh36⟩, fun _ => hh37⟩, fun _ => hh38⟩, ?_⟩
    refine WQ_call rfl gd0 (o_call Try.call44 (argCons rfl (argCons rfl argNil)) _) rfl (h.mono ?_)
    rintro _ w39 ⟨x40, rfl, hh41, hh42, hh43, hh44, h⟩
    refine ⟨⟨⟨⟨⟨⟨⟨trivial, fun _ => hh41⟩, depT (by kernel_rfl)⟩, depT (by kernel_rfl)⟩, fun _ => hh42⟩, fun _ => hh43⟩, fun _ => hh44⟩, ?_⟩
    refine WQ_val rfl gd0 (o_add rfl rfl) rfl ?_
    refine WQ_call rfl gd0 (o_call Try.call44 (argCons rfl (argCons rfl argNil)) _) rfl (h.mono ?_)
    rintro _ w45 ⟨x46, rfl, hh47, hh48, hh49, h⟩
    refine ⟨⟨⟨⟨⟨⟨⟨trivial, fun _ => hh47⟩, depT (by kernel_rfl)⟩, depT (by kernel_rfl)⟩, depT (by kernel_rfl)⟩, fun _ => hh48⟩, fun _ => hh49⟩, ?_⟩
    refine WQ_val rfl gd0 (o_add rfl rfl) rfl ?_
    refine WQ_val rfl gd0 (o_add rfl rfl) rfl ?_
    refine WQ_val rfl gd0 (o_conv Try.underlying3 Try.underlying5 rfl) rfl ?_
    have h := New.out h
    refine WQ_act rfl gd0 (o_buildSlice (e := 5) (ps := [(0, .int .u8 1), (1, .int .u8 (IntKind.u8.wrap (IntKind.i64.wrap (4 * x20)))), (2, .int .u8 (IntKind.u8.wrap (IntKind.i64.wrap ((IntKind.i64.wrap ((IntKind.i64.wrap (x33 + x40)) + x46)) + (IntKind.i64.wrap (2 * x28)))))), (3, .int .u8 (IntKind.u8.wrap x30))]) (cs := [.int .u8 1, .int .u8 (IntKind.u8.wrap (IntKind.i64.wrap (4 * x20))), .int .u8 (IntKind.u8.wrap (IntKind.i64.wrap ((IntKind.i64.wrap ((IntKind.i64.wrap (x33 + x40)) + x46)) + (IntKind.i64.wrap (2 * x28))))), .int .u8 (IntKind.u8.wrap x30)]) (partCons rfl (partCons rfl (partCons rfl (partCons rfl partNil)))) (fun w => by kernel_rfl)) rfl (by exact ⟨⟨⟨⟨⟨⟨trivial, depT (by kernel_rfl)⟩, depT (by kernel_rfl)⟩, depT (by kernel_rfl)⟩, depT (by kernel_rfl)⟩, depT (by kernel_rfl)⟩, depT (by kernel_rfl)⟩) ?_
    generalize hp50 : fresh w45 = p50 at h ⊢
    generalize hw51 : push w45 5 [.int .u8 1, .int .u8 (IntKind.u8.wrap (IntKind.i64.wrap (4 * x20))), .int .u8 (IntKind.u8.wrap (IntKind.i64.wrap ((IntKind.i64.wrap ((IntKind.i64.wrap (x33 + x40)) + x46)) + (IntKind.i64.wrap (2 * x28))))), .int .u8 (IntKind.u8.wrap x30)] = w51 at h ⊢
    try dsimp only at h
    refine WQ_val rfl gd0 (o_assign (v := .slice (some p50) 4 4) rfl) rfl ?_
    refine WQ_val rfl gd0 (o_assign (v := .int .i64 0) rfl) rfl ?_
    refine WQ_nil ?_
    refine nrm ?_
    refine WC_ret ?_
    refine rtE ?_
    exact gv2 rfl rfl rfl h

def F24_j2 (p12 : Addr) (i9 : Int) (out_a21 : Option Addr) (out_n22 : Nat) (out_c23 : Nat) (w25 : World) (nx10 : Option Addr → Nat → Nat → Int → World → Prop) : Prop :=
  ∃ (x_a26 : Option Addr) (x_n27 x_c28 : Nat), w25.cell? p12 = some (.slice x_a26 x_n27 x_c28) ∧ ∃ (p32 : Addr), x_a26 = some p32 ∧ (0 : Int) ≤ i9 ∧ i9 < (x_n27 : Int) ∧ ∃ (x34 : Int), w25.cell? (p32.add i9.toNat) = some (.int .u8 x34) ∧ if x34 = 1 then
  ∃ (p39 : Addr), out_a21 = some p39 ∧ (0 : Int) ≤ IntKind.i64.wrap ((out_n22 : Int) - 1) ∧ IntKind.i64.wrap ((out_n22 : Int) - 1) < (out_n22 : Int) ∧ ∃ (x41 : Int), w25.cell? (p39.add ((IntKind.i64.wrap ((out_n22 : Int) - 1)).toNat)) = some (.int .u8 x41) ∧ (0 : Int) ≤ IntKind.u64.wrap (Int.tmod i9 8) ∧ (0 : Int) ≤ IntKind.i64.wrap ((out_n22 : Int) - 1) ∧ IntKind.i64.wrap ((out_n22 : Int) - 1) < (out_n22 : Int) ∧ Put w25 (p39.add ((IntKind.i64.wrap ((out_n22 : Int) - 1)).toNat)) (.int .u8 (IntKind.u8.wrap (x41 + (shr .u8 128 (IntKind.u64.wrap (Int.tmod i9 8)))))) (fun w46 => nx10 out_a21 out_n22 out_c23 (IntKind.i64.wrap (i9 + 1)) w46)
else
  nx10 out_a21 out_n22 out_c23 (IntKind.i64.wrap (i9 + 1)) w25
def F24_b1 (w1 : Option Addr) (out_a5 : Option Addr) (out_n6 : Nat) (out_c7 : Nat) (i9 : Int) (w10 : World) (nx10 : Option Addr → Nat → Nat → Int → World → Prop) (k : Value → World → Prop) : Prop :=
  ∃ (p12 : Addr), w1 = some p12 ∧ ∃ (x_a14 : Option Addr) (x_n15 x_c16 : Nat), w10.cell? p12 = some (.slice x_a14 x_n15 x_c16) ∧ if i9 < (x_n15 : Int) then
  if (Int.tmod i9 8) = 0 then
    New w10 5 [.int .u8 0] (fun p49 w50 => ∃ (b_a51 : Option Addr) (b_n52 b_c53 : Nat) (w54 : World), (Builtin.append_ #[22, 22] 22 #[.slice out_a5 out_n6 out_c7, .slice (some p49) 1 1]).run Try.prog w50 = .ok (.slice b_a51 b_n52 b_c53) w54 ∧ F24_j2 p12 i9 b_a51 b_n52 b_c53 w54 nx10)
  else
    F24_j2 p12 i9 out_a5 out_n6 out_c7 w10 nx10
else
  k (.slice out_a5 out_n6 out_c7) w10
/-- (*spacecraft spacecraftref02.Writer).Bytes -/
def F24 (w1 : Option Addr) (w2 : World) (k : Value → World → Prop) : Prop :=
  LoopP (fun (s : Option Addr × Nat × Nat × Int) w' nx' => F24_b1 w1 (s.1) (s.2.1) (s.2.2.1) (s.2.2.2) w' (fun x0 x1 x2 x3 w => nx' (x0, x1, x2, x3) w) k) (none, 0, 0, 0) w2
set_option maxRecDepth 100000 in
set_option maxHeartbeats 2000000 in
theorem w24 (w1 : Option Addr) (w2 : World) (k : Value → World → Prop) (h : F24 w1 w2 k) : Does Try.prog 24 #[.pointer w1] w2 k := by
  refine enter 45 Try.func24 rfl rfl rfl ?_
  intro ρ hρ
  have e0 := hρ 0 _ rfl
  unfold F24 at h
  refine WC_seq ?_
  refine WC_region ?_
  refine WL_val gd0 ((o_assign (v := .slice none 0 0) rfl) _) rfl ?_
  refine WL_nil ?_
  refine nrm ?_
  refine WC_seq ?_
  refine WC_region ?_
  refine WL_val gd0 ((o_assign (v := .slice none 0 0) rfl) _) rfl ?_
  refine WL_nil ?_
  refine nrm ?_
  refine WC_seq ?_
  refine WC_seq ?_
  refine WC_region ?_
  refine WL_val gd0 ((o_assign (v := .int .i64 0) rfl) _) rfl ?_
  refine WL_nil ?_
  refine nrm ?_
  refine WC_block ?_
  obtain ⟨J10, ⟨n10, h0⟩, hr10⟩ := h
  refine WC_loop (fun n ρ w' => ∃ (out_a5 : Option Addr) (out_n6 out_c7 : Nat) (i9 : Int), ρ 3 = .slice out_a5 out_n6 out_c7 ∧ ρ 4 = .int .i64 i9 ∧ ρ 0 = .pointer w1 ∧ J10 n (out_a5, out_n6, out_c7, i9) w') ⟨n10, _, _, _, _, rfl, rfl, e0, h0⟩ ?_
  rintro n10 ρ w10 ⟨out_a5, out_n6, out_c7, i9, e3_4, e4_8, e0_3, h⟩
  have h : F24_b1 w1 out_a5 out_n6 out_c7 i9 w10 (fun x0 x1 x2 x3 w => ∃ m, m < n10 ∧ J10 m (x0, x1, x2, x3) w) k := hr10 n10 (out_a5, out_n6, out_c7, i9) w10 h
  unfold F24_b1 at h
  refine WC_seq ?_
  refine WC_seq ?_
  refine WC_region ?_
  refine WL_val gd0 ((o_move (v := .int .i64 i9) (by exact e4_8)) _) rfl ?_
  refine WL_val gd0 ((o_move (v := .pointer w1) (by exact e0_3)) _) rfl ?_
  obtain ⟨p12, q13, h⟩ := h
  refine WL_val gd0 ((o_nilCheck (by exact (congrArg Value.pointer q13))) _) rfl ?_
  refine WL_val gd0 ((o_fieldAddr0 Try.underlying48 rfl Try.sizeOf22 rfl rfl rfl) _) rfl ?_
  obtain ⟨x_a14, x_n15, x_c16, hc17, h⟩ := h
  refine WL_val gd0 (o_load Try.isAgg22 rfl hc17) rfl ?_
  refine WL_val gd0 ((o_len Try.underlying22 rfl) _) rfl ?_
  refine WL_val gd0 ((o_lss rfl rfl) _) rfl ?_
  refine WL_nil ?_
  refine nrm ?_
  refine WC_cond (t := (decide (i9 < (x_n15 : Int)))) rfl (fun hb18 => ?_) (fun hb18 => ?_)
  · rw [if_pos (of_decide_eq_true hb18)] at h
    refine WC_skip ?_
    refine nrm ?_
    refine WC_seq ?_
    refine WC_block ?_
    refine WC_cut (fun ρ w' => ∃ (out_a21 : Option Addr) (out_n22 out_c23 : Nat), ρ 3 = .slice out_a21 out_n22 out_c23 ∧ ρ 0 = .pointer w1 ∧ ρ 4 = .int .i64 i9 ∧ F24_j2 p12 i9 out_a21 out_n22 out_c23 w' (fun x0 x1 x2 x3 w => ∃ m, m < n10 ∧ J10 m (x0, x1, x2, x3) w)) ?_ ?_
    · refine WC_seq ?_
      refine WC_region ?_
      refine WL_val gd0 ((o_move (v := .int .i64 i9) (by exact e4_8)) _) rfl ?_
      refine WL_val gd0 ((fun w => o_rem rfl rfl w (by decide)) _) rfl ?_
      refine WL_val gd0 ((o_eql rfl rfl) _) rfl ?_
      refine WL_nil ?_
      refine nrm ?_
      refine WC_cond (t := (decide ((Int.tmod i9 8) = 0))) rfl (fun hb48 => ?_) (fun hb48 => ?_)
      · rw [if_pos (of_decide_eq_true hb48)] at h
        refine WC_region ?_
        refine WL_val gd0 ((o_move (v := .slice out_a5 out_n6 out_c7) (by exact e3_4)) _) rfl ?_
        have h := New.out h
        refine WL_val gd0 (o_buildSlice (e := 5) (ps := [(0, .int .u8 0)]) (cs := [.int .u8 0]) (partCons rfl partNil) (fun w => by kernel_rfl)) rfl ?_
        generalize hp49 : fresh w10 = p49 at h ⊢
        generalize hw50 : push w10 5 [.int .u8 0] = w50 at h ⊢
        try dsimp only at h
        obtain ⟨b_a51, b_n52, b_c53, w54, r55, h⟩ := h
        refine WL_val gd0 (o_append rfl rfl r55) rfl ?_
        refine WL_val gd0 ((o_assign (v := .slice b_a51 b_n52 b_c53) rfl) _) rfl ?_
        refine WL_nil ?_
        refine nrm ?_
        exact ⟨_, _, _, rfl, e0_3, e4_8, h⟩
      · rw [if_neg (of_decide_eq_false hb48)] at h
        refine WC_skip ?_
        refine nrm ?_
        exact ⟨_, _, _, e3_4, e0_3, e4_8, h⟩
    · rintro ρ w25 ⟨out_a21, out_n22, out_c23, e3_20, e0_19, e4_24, h⟩
      unfold F24_j2 at h
      refine WC_seq ?_
      refine WC_region ?_
      refine WL_val gd0 ((o_move (v := .pointer w1) (by exact e0_19)) _) rfl ?_
      refine WL_val gd0 ((o_nilCheck (by exact (congrArg Value.pointer q13))) _) rfl ?_
      refine WL_val gd0 ((o_fieldAddr0 Try.underlying48 rfl Try.sizeOf22 rfl rfl rfl) _) rfl ?_
      obtain ⟨x_a26, x_n27, x_c28, hc29, h⟩ := h
      refine WL_val gd0 (o_load Try.isAgg22 rfl hc29) rfl ?_
      refine WL_val gd0 ((o_move (v := .int .i64 i9) (by exact e4_24)) _) rfl ?_
      obtain ⟨p32, q33, h⟩ := h
      obtain ⟨l30, u31, h⟩ := h
      refine WL_val gd0 ((o_indexAddr1 Try.underlying22 Try.sizeOf5 (by exact (congrArg (fun z => Value.slice z x_n27 x_c28) q33)) rfl l30 u31) _) rfl ?_
      obtain ⟨x34, hc35, h⟩ := h
      refine WL_val gd0 (o_load Try.isAgg5 rfl hc35) rfl ?_
      refine WL_val gd0 ((o_eql rfl rfl) _) rfl ?_
      refine WL_nil ?_
      refine nrm ?_
      refine WC_cond (t := (decide (x34 = 1))) rfl (fun hb36 => ?_) (fun hb36 => ?_)
      · rw [if_pos (of_decide_eq_true hb36)] at h
        refine WC_region ?_
        refine WL_val gd0 ((o_move (v := .slice out_a21 out_n22 out_c23) (by exact e3_20)) _) rfl ?_
        refine WL_val gd0 ((o_move (v := .slice out_a21 out_n22 out_c23) (by exact e3_20)) _) rfl ?_
        refine WL_val gd0 ((o_len Try.underlying22 rfl) _) rfl ?_
        refine WL_val gd0 ((o_sub rfl rfl) _) rfl ?_
        refine WL_val gd0 ((o_move (v := .slice out_a21 out_n22 out_c23) (by exact e3_20)) _) rfl ?_
        refine WL_val gd0 ((o_move (v := .slice out_a21 out_n22 out_c23) (by exact e3_20)) _) rfl ?_
        refine WL_val gd0 ((o_len Try.underlying22 rfl) _) rfl ?_
        refine WL_val gd0 ((o_sub rfl rfl) _) rfl ?_
        obtain ⟨p39, q40, h⟩ := h
        obtain ⟨l37, u38, h⟩ := h
        refine WL_val gd0 ((o_indexAddr1 Try.underlying22 Try.sizeOf5 (by exact (congrArg (fun z => Value.slice z out_n22 out_c23) q40)) rfl l37 u38) _) rfl ?_
        obtain ⟨x41, hc42, h⟩ := h
        refine WL_val gd0 (o_load Try.isAgg5 rfl hc42) rfl ?_
        refine WL_val gd0 ((o_move (v := .int .i64 i9) (by exact e4_24)) _) rfl ?_
        refine WL_val gd0 ((fun w => o_rem rfl rfl w (by decide)) _) rfl ?_
        refine WL_val gd0 ((o_conv Try.underlying3 Try.underlying36 rfl) _) rfl ?_
        obtain ⟨c43, h⟩ := h
        refine WL_val gd0 ((o_shr rfl rfl c43) _) rfl ?_
        refine WL_val gd0 ((o_add rfl rfl) _) rfl ?_
        obtain ⟨l44, u45, h⟩ := h
        refine WL_val gd0 ((o_indexAddr1 Try.underlying22 Try.sizeOf5 (by exact (congrArg (fun z => Value.slice z out_n22 out_c23) q40)) rfl l44 u45) _) rfl ?_
        obtain ⟨c47, h⟩ := h
        refine WL_act gd0 (o_store (v := .int .u8 (IntKind.u8.wrap (x41 + (shr .u8 128 (IntKind.u64.wrap (Int.tmod i9 8)))))) Try.sizeOf5 rfl rfl rfl c47) ?_
        generalize hw46 : World.setCell w25 (p39.add ((IntKind.i64.wrap ((out_n22 : Int) - 1)).toNat)) (.int .u8 (IntKind.u8.wrap (x41 + (shr .u8 128 (IntKind.u64.wrap (Int.tmod i9 8)))))) = w46 at h ⊢
        try dsimp only at h
        refine WL_nil ?_
        refine nrmB ?_
        refine nrm ?_
        refine WC_region ?_
        refine WL_val gd0 ((o_move (v := .int .i64 i9) (by exact e4_24)) _) rfl ?_
        refine WL_val gd0 ((o_add rfl rfl) _) rfl ?_
        refine WL_val gd0 ((o_assign (v := .int .i64 (IntKind.i64.wrap (i9 + 1))) rfl) _) rfl ?_
        refine WL_nil ?_
        refine nrm ?_
        obtain ⟨m11, hm11, h⟩ := h
        exact ⟨m11, hm11, _, _, _, _, e3_20, rfl, e0_19, h⟩
      · rw [if_neg (of_decide_eq_false hb36)] at h
        refine WC_skip ?_
        refine nrmB ?_
        refine nrm ?_
        refine WC_region ?_
        refine WL_val gd0 ((o_move (v := .int .i64 i9) (by exact e4_24)) _) rfl ?_
        refine WL_val gd0 ((o_add rfl rfl) _) rfl ?_
        refine WL_val gd0 ((o_assign (v := .int .i64 (IntKind.i64.wrap (i9 + 1))) rfl) _) rfl ?_
        refine WL_nil ?_
        refine nrm ?_
        obtain ⟨m11, hm11, h⟩ := h
        exact ⟨m11, hm11, _, _, _, _, e3_20, rfl, e0_19, h⟩
  · rw [if_neg (of_decide_eq_false hb18)] at h
    refine WC_exit ?_
    refine exT ?_
    refine exT ?_
    refine exB ?_
    refine nrm ?_
    refine WC_seq ?_
    refine WC_region ?_
    refine WL_val gd0 ((o_move (v := .slice out_a5 out_n6 out_c7) (by exact e3_4)) _) rfl ?_
    refine WL_val gd0 ((o_assign (v := .slice out_a5 out_n6 out_c7) rfl) _) rfl ?_
    refine WL_nil ?_
    refine nrm ?_
    refine WC_ret ?_
    refine rtE ?_
    exact gv1 rfl rfl h

/-- spacecraft spacecraftref01.Sum16 -/
def F25 (b_a1 : Option Addr) (b_n2 : Nat) (b_c3 : Nat) (w4 : World) (k : Value → World → Prop) : Prop :=
  Does Try.prog 45 #[.int .u16 65535, .slice b_a1 b_n2 b_c3] w4 (fun v w5 => ∃ (t6 : Int), v = .int .u16 t6 ∧ k (.int .u16 t6) w5)
set_option maxRecDepth 100000 in
set_option maxHeartbeats 2000000 in
theorem w25 (b_a1 : Option Addr) (b_n2 : Nat) (b_c3 : Nat) (w4 : World) (k : Value → World → Prop) (h : F25 b_a1 b_n2 b_c3 w4 k) : Does Try.prog 25 #[.slice b_a1 b_n2 b_c3] w4 k := by
  refine enter 5 Try.func25 rfl rfl rfl ?_
  intro ρ hρ
  have e0 := hρ 0 _ rfl
  unfold F25 at h
  refine WC_seq ?_
  refine WC_region ?_
  refine WL_val gd0 ((o_assign (v := .int .u16 0) rfl) _) rfl ?_
  refine WL_nil ?_
  refine nrm ?_
  refine WC_seq ?_
  refine WC_region ?_
  refine WL_val gd0 ((o_move (v := .slice b_a1 b_n2 b_c3) (by exact e0)) _) rfl ?_
  refine WL_call gd0 (o_call Try.call45 (argCons rfl (argCons rfl argNil)) _) rfl (h.mono ?_)
  rintro _ w5 ⟨t6, rfl, h⟩
  refine WL_val gd0 ((o_assign (v := .int .u16 t6) rfl) _) rfl ?_
  refine WL_nil ?_
  refine nrm ?_
  refine WC_ret ?_
  refine rtE ?_
  exact gv1 rfl rfl h

/-- spacecraft tmframe.within -/
def F26 (n1 : Int) (most2 : Int) (w3 : World) (k : Value → World → Prop) : Prop :=
  if 0 ≤ n1 then
  k (.bool (decide (n1 ≤ most2))) w3
else
  k (.bool false) w3
set_option maxRecDepth 100000 in
set_option maxHeartbeats 2000000 in
theorem w26 (n1 : Int) (most2 : Int) (w3 : World) (k : Value → World → Prop) (h : F26 n1 most2 w3 k) : Does Try.prog 26 #[.int .i64 n1, .int .i64 most2] w3 k := by
  refine enter 12 Try.func26 rfl rfl rfl ?_
  intro ρ hρ
  have e0 := hρ 0 _ rfl
  have e1 := hρ 1 _ rfl
  unfold F26 at h
  refine WC_seq ?_
  refine WC_region ?_
  refine WL_val gd0 ((o_assign (v := .bool false) rfl) _) rfl ?_
  refine WL_nil ?_
  refine nrm ?_
  refine WC_seq ?_
  refine WC_region ?_
  refine WL_val gd0 ((o_move (v := .int .i64 n1) (by exact e0)) _) rfl ?_
  refine WL_val gd0 ((o_geq rfl rfl) _) rfl ?_
  refine WL_val gd0 ((o_move (v := .bool (decide (0 ≤ n1))) rfl) _) rfl ?_
  refine bsplit (decide (0 ≤ n1)) (fun hb4 => ?_) (fun hb4 => ?_)
  · rw [if_pos (of_decide_eq_true hb4)] at h
    refine WL_val (gdY (b := (decide (0 ≤ n1))) 7 rfl rfl hb4) ((o_move (v := .int .i64 n1) (by exact e0)) _) rfl ?_
    refine WL_val (gdY (b := (decide (0 ≤ n1))) 7 rfl rfl hb4) ((o_move (v := .int .i64 most2) (by exact e1)) _) rfl ?_
    refine WL_val (gdY (b := (decide (0 ≤ n1))) 7 rfl rfl hb4) ((o_leq rfl rfl) _) rfl ?_
    refine WL_val gd0 ((o_pickT (v := .bool (decide (n1 ≤ most2))) rfl hb4 rfl) _) rfl ?_
    refine WL_val gd0 ((o_assign (v := .bool (decide (n1 ≤ most2))) rfl) _) rfl ?_
    refine WL_nil ?_
    refine nrm ?_
    refine WC_ret ?_
    refine rtE ?_
    exact gv1 rfl rfl h
  · rw [if_neg (of_decide_eq_false hb4)] at h
    refine WL_skip (gdN (b := (decide (0 ≤ n1))) 7 rfl rfl hb4) rfl ?_
    refine WL_skip (gdN (b := (decide (0 ≤ n1))) 7 rfl rfl hb4) rfl ?_
    refine WL_skip (gdN (b := (decide (0 ≤ n1))) 7 rfl rfl hb4) rfl ?_
    refine WL_val gd0 ((o_pickF (v := .bool false) rfl hb4 rfl) _) rfl ?_
    refine WL_val gd0 ((o_assign (v := .bool false) rfl) _) rfl ?_
    refine WL_nil ?_
    refine nrm ?_
    refine WC_ret ?_
    refine rtE ?_
    exact gv1 rfl rfl h

/-- spacecraft clcw.Valid -/
def F27 (c1 : Int) (c2 : Bool) (c3 : Bool) (c4 : Bool) (c5 : Int) (c6 : Int) (w7 : World) (k : Value → World → Prop) : Prop :=
  New w7 24 [.int .i64 c1, .bool c2, .bool c3, .bool c4, .int .i64 c5, .int .i64 c6] (fun p8 w9 => ∃ (x10 : Int), w9.cell? p8 = some (.int .i64 x10) ∧ if 0 ≤ x10 then
  ∃ (x13 : Int), w9.cell? p8 = some (.int .i64 x13) ∧ if x13 ≤ 7 then
    ∃ (x16 : Int), w9.cell? (p8.add 4) = some (.int .i64 x16) ∧ if 0 ≤ x16 then
      ∃ (x19 : Int), w9.cell? (p8.add 4) = some (.int .i64 x19) ∧ if x19 ≤ 3 then
        ∃ (x22 : Int), w9.cell? (p8.add 5) = some (.int .i64 x22) ∧ if 0 ≤ x22 then
          ∃ (x25 : Int), w9.cell? (p8.add 5) = some (.int .i64 x25) ∧ k (.bool (decide (x25 ≤ 255))) w9
        else
          k (.bool false) w9
      else
        k (.bool false) w9
    else
      k (.bool false) w9
  else
    k (.bool false) w9
else
  k (.bool false) w9)
set_option maxRecDepth 100000 in
set_option maxHeartbeats 2000000 in
theorem w27 (c1 : Int) (c2 : Bool) (c3 : Bool) (c4 : Bool) (c5 : Int) (c6 : Int) (w7 : World) (k : Value → World → Prop) (h : F27 c1 c2 c3 c4 c5 c6 w7 k) : Does Try.prog 27 #[.agg #[.int .i64 c1, .bool c2, .bool c3, .bool c4, .int .i64 c5, .int .i64 c6]] w7 k := by
  refine enter 31 Try.func27 rfl rfl rfl ?_
  intro ρ hρ
  have e0 := hρ 0 _ rfl
  unfold F27 at h
  refine WC_seq ?_
  refine WC_region ?_
  have h := New.out h
  refine WL_val gd0 (o_box (v := .agg #[.int .i64 c1, .bool c2, .bool c3, .bool c4, .int .i64 c5, .int .i64 c6]) (cs := [.int .i64 c1, .bool c2, .bool c3, .bool c4, .int .i64 c5, .int .i64 c6]) (by exact e0) rfl) rfl ?_
  generalize hp8 : fresh w7 = p8 at h ⊢
  generalize hw9 : push w7 24 [.int .i64 c1, .bool c2, .bool c3, .bool c4, .int .i64 c5, .int .i64 c6] = w9 at h ⊢
  try dsimp only at h
  refine WL_val gd0 ((o_assign (v := .bool false) rfl) _) rfl ?_
  refine WL_nil ?_
  refine nrm ?_
  refine WC_seq ?_
  refine WC_region ?_
  refine WL_val gd0 ((o_fieldAddr0 Try.underlying24 rfl Try.sizeOf3 rfl rfl rfl) _) rfl ?_
  obtain ⟨x10, hc11, h⟩ := h
  refine WL_val gd0 (o_load Try.isAgg3 rfl hc11) rfl ?_
  refine WL_val gd0 ((o_geq rfl rfl) _) rfl ?_
  refine WL_val gd0 ((o_move (v := .bool (decide (0 ≤ x10))) rfl) _) rfl ?_
  refine bsplit (decide (0 ≤ x10)) (fun hb12 => ?_) (fun hb12 => ?_)
  · rw [if_pos (of_decide_eq_true hb12)] at h
    refine WL_val (gdY (b := (decide (0 ≤ x10))) 6 rfl rfl hb12) ((o_fieldAddr0 Try.underlying24 rfl Try.sizeOf3 rfl rfl rfl) _) rfl ?_
    obtain ⟨x13, hc14, h⟩ := h
    refine WL_val (gdY (b := (decide (0 ≤ x10))) 6 rfl rfl hb12) (o_load Try.isAgg3 rfl hc14) rfl ?_
    refine WL_val (gdY (b := (decide (0 ≤ x10))) 6 rfl rfl hb12) ((o_leq rfl rfl) _) rfl ?_
    refine WL_val gd0 ((o_pickT (v := .bool (decide (x13 ≤ 7))) rfl hb12 rfl) _) rfl ?_
    refine WL_val gd0 ((o_move (v := .bool (decide (x13 ≤ 7))) rfl) _) rfl ?_
    refine bsplit (decide (x13 ≤ 7)) (fun hb15 => ?_) (fun hb15 => ?_)
    · rw [if_pos (of_decide_eq_true hb15)] at h
      refine WL_val (gdY (b := (decide (x13 ≤ 7))) 11 rfl rfl hb15) ((o_fieldAddr 4 Try.underlying24 rfl Try.sizeOf3 rfl rfl rfl) _) rfl ?_
      obtain ⟨x16, hc17, h⟩ := h
      refine WL_val (gdY (b := (decide (x13 ≤ 7))) 11 rfl rfl hb15) (o_load Try.isAgg3 rfl hc17) rfl ?_
      refine WL_val (gdY (b := (decide (x13 ≤ 7))) 11 rfl rfl hb15) ((o_geq rfl rfl) _) rfl ?_
      refine WL_val gd0 ((o_pickT (v := .bool (decide (0 ≤ x16))) rfl hb15 rfl) _) rfl ?_
      refine WL_val gd0 ((o_move (v := .bool (decide (0 ≤ x16))) rfl) _) rfl ?_
      refine bsplit (decide (0 ≤ x16)) (fun hb18 => ?_) (fun hb18 => ?_)
      · rw [if_pos (of_decide_eq_true hb18)] at h
        refine WL_val (gdY (b := (decide (0 ≤ x16))) 16 rfl rfl hb18) ((o_fieldAddr 4 Try.underlying24 rfl Try.sizeOf3 rfl rfl rfl) _) rfl ?_
        obtain ⟨x19, hc20, h⟩ := h
        refine WL_val (gdY (b := (decide (0 ≤ x16))) 16 rfl rfl hb18) (o_load Try.isAgg3 rfl hc20) rfl ?_
        refine WL_val (gdY (b := (decide (0 ≤ x16))) 16 rfl rfl hb18) ((o_leq rfl rfl) _) rfl ?_
        refine WL_val gd0 ((o_pickT (v := .bool (decide (x19 ≤ 3))) rfl hb18 rfl) _) rfl ?_
        refine WL_val gd0 ((o_move (v := .bool (decide (x19 ≤ 3))) rfl) _) rfl ?_
        refine bsplit (decide (x19 ≤ 3)) (fun hb21 => ?_) (fun hb21 => ?_)
        · rw [if_pos (of_decide_eq_true hb21)] at h
          refine WL_val (gdY (b := (decide (x19 ≤ 3))) 21 rfl rfl hb21) ((o_fieldAddr 5 Try.underlying24 rfl Try.sizeOf3 rfl rfl rfl) _) rfl ?_
          obtain ⟨x22, hc23, h⟩ := h
          refine WL_val (gdY (b := (decide (x19 ≤ 3))) 21 rfl rfl hb21) (o_load Try.isAgg3 rfl hc23) rfl ?_
          refine WL_val (gdY (b := (decide (x19 ≤ 3))) 21 rfl rfl hb21) ((o_geq rfl rfl) _) rfl ?_
          refine WL_val gd0 ((o_pickT (v := .bool (decide (0 ≤ x22))) rfl hb21 rfl) _) rfl ?_
          refine WL_val gd0 ((o_move (v := .bool (decide (0 ≤ x22))) rfl) _) rfl ?_
          refine bsplit (decide (0 ≤ x22)) (fun hb24 => ?_) (fun hb24 => ?_)
          · rw [if_pos (of_decide_eq_true hb24)] at h
            refine WL_val (gdY (b := (decide (0 ≤ x22))) 26 rfl rfl hb24) ((o_fieldAddr 5 Try.underlying24 rfl Try.sizeOf3 rfl rfl rfl) _) rfl ?_
            obtain ⟨x25, hc26, h⟩ := h
            refine WL_val (gdY (b := (decide (0 ≤ x22))) 26 rfl rfl hb24) (o_load Try.isAgg3 rfl hc26) rfl ?_
            refine WL_val (gdY (b := (decide (0 ≤ x22))) 26 rfl rfl hb24) ((o_leq rfl rfl) _) rfl ?_
            refine WL_val gd0 ((o_pickT (v := .bool (decide (x25 ≤ 255))) rfl hb24 rfl) _) rfl ?_
            refine WL_val gd0 ((o_assign (v := .bool (decide (x25 ≤ 255))) rfl) _) rfl ?_
            refine WL_nil ?_
            refine nrm ?_
            refine WC_ret ?_
            refine rtE ?_
            exact gv1 rfl rfl h
          · rw [if_neg (of_decide_eq_false hb24)] at h
            refine WL_skip (gdN (b := (decide (0 ≤ x22))) 26 rfl rfl hb24) rfl ?_
            refine WL_skip (gdN (b := (decide (0 ≤ x22))) 26 rfl rfl hb24) rfl ?_
            refine WL_skip (gdN (b := (decide (0 ≤ x22))) 26 rfl rfl hb24) rfl ?_
            refine WL_val gd0 ((o_pickF (v := .bool false) rfl hb24 rfl) _) rfl ?_
            refine WL_val gd0 ((o_assign (v := .bool false) rfl) _) rfl ?_
            refine WL_nil ?_
            refine nrm ?_
            refine WC_ret ?_
            refine rtE ?_
            exact gv1 rfl rfl h
        · rw [if_neg (of_decide_eq_false hb21)] at h
          refine WL_skip (gdN (b := (decide (x19 ≤ 3))) 21 rfl rfl hb21) rfl ?_
          refine WL_skip (gdN (b := (decide (x19 ≤ 3))) 21 rfl rfl hb21) rfl ?_
          refine WL_skip (gdN (b := (decide (x19 ≤ 3))) 21 rfl rfl hb21) rfl ?_
          refine WL_val gd0 ((o_pickF (v := .bool false) rfl hb21 rfl) _) rfl ?_
          refine WL_val gd0 ((o_move (v := .bool false) rfl) _) rfl ?_
          refine WL_skip (gdN (b := false) 26 rfl rfl rfl) rfl ?_
          refine WL_skip (gdN (b := false) 26 rfl rfl rfl) rfl ?_
          refine WL_skip (gdN (b := false) 26 rfl rfl rfl) rfl ?_
          refine WL_val gd0 ((o_pickF (v := .bool false) rfl rfl rfl) _) rfl ?_
          refine WL_val gd0 ((o_assign (v := .bool false) rfl) _) rfl ?_
          refine WL_nil ?_
          refine nrm ?_
          refine WC_ret ?_
          refine rtE ?_
          exact gv1 rfl rfl h
      · rw [if_neg (of_decide_eq_false hb18)] at h
        refine WL_skip (gdN (b := (decide (0 ≤ x16))) 16 rfl rfl hb18) rfl ?_
        refine WL_skip (gdN (b := (decide (0 ≤ x16))) 16 rfl rfl hb18) rfl ?_
        refine WL_skip (gdN (b := (decide (0 ≤ x16))) 16 rfl rfl hb18) rfl ?_
        refine WL_val gd0 ((o_pickF (v := .bool false) rfl hb18 rfl) _) rfl ?_
        refine WL_val gd0 ((o_move (v := .bool false) rfl) _) rfl ?_
        refine WL_skip (gdN (b := false) 21 rfl rfl rfl) rfl ?_
        refine WL_skip (gdN (b := false) 21 rfl rfl rfl) rfl ?_
        refine WL_skip (gdN (b := false) 21 rfl rfl rfl) rfl ?_
        refine WL_val gd0 ((o_pickF (v := .bool false) rfl rfl rfl) _) rfl ?_
        refine WL_val gd0 ((o_move (v := .bool false) rfl) _) rfl ?_
        refine WL_skip (gdN (b := false) 26 rfl rfl rfl) rfl ?_
        refine WL_skip (gdN (b := false) 26 rfl rfl rfl) rfl ?_
        refine WL_skip (gdN (b := false) 26 rfl rfl rfl) rfl ?_
        refine WL_val gd0 ((o_pickF (v := .bool false) rfl rfl rfl) _) rfl ?_
        refine WL_val gd0 ((o_assign (v := .bool false) rfl) _) rfl ?_
        refine WL_nil ?_
        refine nrm ?_
        refine WC_ret ?_
        refine rtE ?_
        exact gv1 rfl rfl h
    · rw [if_neg (of_decide_eq_false hb15)] at h
      refine WL_skip (gdN (b := (decide (x13 ≤ 7))) 11 rfl rfl hb15) rfl ?_
      refine WL_skip (gdN (b := (decide (x13 ≤ 7))) 11 rfl rfl hb15) rfl ?_
      refine WL_skip (gdN (b := (decide (x13 ≤ 7))) 11 rfl rfl hb15) rfl ?_
      refine WL_val gd0 ((o_pickF (v := .bool false) rfl hb15 rfl) _) rfl ?_
      refine WL_val gd0 ((o_move (v := .bool false) rfl) _) rfl ?_
      refine WL_skip (gdN (b := false) 16 rfl rfl rfl) rfl ?_
      refine WL_skip (gdN (b := false) 16 rfl rfl rfl) rfl ?_
      refine WL_skip (gdN (b := false) 16 rfl rfl rfl) rfl ?_
      refine WL_val gd0 ((o_pickF (v := .bool false) rfl rfl rfl) _) rfl ?_
      refine WL_val gd0 ((o_move (v := .bool false) rfl) _) rfl ?_
      refine WL_skip (gdN (b := false) 21 rfl rfl rfl) rfl ?_
      refine WL_skip (gdN (b := false) 21 rfl rfl rfl) rfl ?_
      refine WL_skip (gdN (b := false) 21 rfl rfl rfl) rfl ?_
      refine WL_val gd0 ((o_pickF (v := .bool false) rfl rfl rfl) _) rfl ?_
      refine WL_val gd0 ((o_move (v := .bool false) rfl) _) rfl ?_
      refine WL_skip (gdN (b := false) 26 rfl rfl rfl) rfl ?_
      refine WL_skip (gdN (b := false) 26 rfl rfl rfl) rfl ?_
      refine WL_skip (gdN (b := false) 26 rfl rfl rfl) rfl ?_
      refine WL_val gd0 ((o_pickF (v := .bool false) rfl rfl rfl) _) rfl ?_
      refine WL_val gd0 ((o_assign (v := .bool false) rfl) _) rfl ?_
      refine WL_nil ?_
      refine nrm ?_
      refine WC_ret ?_
      refine rtE ?_
      exact gv1 rfl rfl h
  · rw [if_neg (of_decide_eq_false hb12)] at h
    refine WL_skip (gdN (b := (decide (0 ≤ x10))) 6 rfl rfl hb12) rfl ?_
    refine WL_skip (gdN (b := (decide (0 ≤ x10))) 6 rfl rfl hb12) rfl ?_
    refine WL_skip (gdN (b := (decide (0 ≤ x10))) 6 rfl rfl hb12) rfl ?_
    refine WL_val gd0 ((o_pickF (v := .bool false) rfl hb12 rfl) _) rfl ?_
    refine WL_val gd0 ((o_move (v := .bool false) rfl) _) rfl ?_
    refine WL_skip (gdN (b := false) 11 rfl rfl rfl) rfl ?_
    refine WL_skip (gdN (b := false) 11 rfl rfl rfl) rfl ?_
    refine WL_skip (gdN (b := false) 11 rfl rfl rfl) rfl ?_
    refine WL_val gd0 ((o_pickF (v := .bool false) rfl rfl rfl) _) rfl ?_
    refine WL_val gd0 ((o_move (v := .bool false) rfl) _) rfl ?_
    refine WL_skip (gdN (b := false) 16 rfl rfl rfl) rfl ?_
    refine WL_skip (gdN (b := false) 16 rfl rfl rfl) rfl ?_
    refine WL_skip (gdN (b := false) 16 rfl rfl rfl) rfl ?_
    refine WL_val gd0 ((o_pickF (v := .bool false) rfl rfl rfl) _) rfl ?_
    refine WL_val gd0 ((o_move (v := .bool false) rfl) _) rfl ?_
    refine WL_skip (gdN (b := false) 21 rfl rfl rfl) rfl ?_
    refine WL_skip (gdN (b := false) 21 rfl rfl rfl) rfl ?_
    refine WL_skip (gdN (b := false) 21 rfl rfl rfl) rfl ?_
    refine WL_val gd0 ((o_pickF (v := .bool false) rfl rfl rfl) _) rfl ?_
    refine WL_val gd0 ((o_move (v := .bool false) rfl) _) rfl ?_
    refine WL_skip (gdN (b := false) 26 rfl rfl rfl) rfl ?_
    refine WL_skip (gdN (b := false) 26 rfl rfl rfl) rfl ?_
    refine WL_skip (gdN (b := false) 26 rfl rfl rfl) rfl ?_
    refine WL_val gd0 ((o_pickF (v := .bool false) rfl rfl rfl) _) rfl ?_
    refine WL_val gd0 ((o_assign (v := .bool false) rfl) _) rfl ?_
    refine WL_nil ?_
    refine nrm ?_
    refine WC_ret ?_
    refine rtE ?_
    exact gv1 rfl rfl h

/-- spacecraft spacecraftref15.Valid -/
def F28 (c1 : Int) (c2 : Bool) (c3 : Bool) (c4 : Bool) (c5 : Int) (c6 : Int) (w7 : World) (k : Value → World → Prop) : Prop :=
  New w7 24 [.int .i64 c1, .bool c2, .bool c3, .bool c4, .int .i64 c5, .int .i64 c6] (fun p8 w9 => ∃ (x10 : Int), w9.cell? p8 = some (.int .i64 x10) ∧ if 0 ≤ x10 then
  ∃ (x13 : Int), w9.cell? p8 = some (.int .i64 x13) ∧ if x13 ≤ 7 then
    ∃ (x16 : Int), w9.cell? (p8.add 4) = some (.int .i64 x16) ∧ if 0 ≤ x16 then
      ∃ (x19 : Int), w9.cell? (p8.add 4) = some (.int .i64 x19) ∧ if x19 ≤ 3 then
        ∃ (x22 : Int), w9.cell? (p8.add 5) = some (.int .i64 x22) ∧ if 0 ≤ x22 then
          ∃ (x25 : Int), w9.cell? (p8.add 5) = some (.int .i64 x25) ∧ k (.bool (decide (x25 ≤ 255))) w9
        else
          k (.bool false) w9
      else
        k (.bool false) w9
    else
      k (.bool false) w9
  else
    k (.bool false) w9
else
  k (.bool false) w9)
set_option maxRecDepth 100000 in
set_option maxHeartbeats 2000000 in
theorem w28 (c1 : Int) (c2 : Bool) (c3 : Bool) (c4 : Bool) (c5 : Int) (c6 : Int) (w7 : World) (k : Value → World → Prop) (h : F28 c1 c2 c3 c4 c5 c6 w7 k) : Does Try.prog 28 #[.agg #[.int .i64 c1, .bool c2, .bool c3, .bool c4, .int .i64 c5, .int .i64 c6]] w7 k := by
  refine enter 31 Try.func28 rfl rfl rfl ?_
  intro ρ hρ
  have e0 := hρ 0 _ rfl
  unfold F28 at h
  refine WC_seq ?_
  refine WC_region ?_
  have h := New.out h
  refine WL_val gd0 (o_box (v := .agg #[.int .i64 c1, .bool c2, .bool c3, .bool c4, .int .i64 c5, .int .i64 c6]) (cs := [.int .i64 c1, .bool c2, .bool c3, .bool c4, .int .i64 c5, .int .i64 c6]) (by exact e0) rfl) rfl ?_
  generalize hp8 : fresh w7 = p8 at h ⊢
  generalize hw9 : push w7 24 [.int .i64 c1, .bool c2, .bool c3, .bool c4, .int .i64 c5, .int .i64 c6] = w9 at h ⊢
  try dsimp only at h
  refine WL_val gd0 ((o_assign (v := .bool false) rfl) _) rfl ?_
  refine WL_nil ?_
  refine nrm ?_
  refine WC_seq ?_
  refine WC_region ?_
  refine WL_val gd0 ((o_fieldAddr0 Try.underlying24 rfl Try.sizeOf3 rfl rfl rfl) _) rfl ?_
  obtain ⟨x10, hc11, h⟩ := h
  refine WL_val gd0 (o_load Try.isAgg3 rfl hc11) rfl ?_
  refine WL_val gd0 ((o_geq rfl rfl) _) rfl ?_
  refine WL_val gd0 ((o_move (v := .bool (decide (0 ≤ x10))) rfl) _) rfl ?_
  refine bsplit (decide (0 ≤ x10)) (fun hb12 => ?_) (fun hb12 => ?_)
  · rw [if_pos (of_decide_eq_true hb12)] at h
    refine WL_val (gdY (b := (decide (0 ≤ x10))) 6 rfl rfl hb12) ((o_fieldAddr0 Try.underlying24 rfl Try.sizeOf3 rfl rfl rfl) _) rfl ?_
    obtain ⟨x13, hc14, h⟩ := h
    refine WL_val (gdY (b := (decide (0 ≤ x10))) 6 rfl rfl hb12) (o_load Try.isAgg3 rfl hc14) rfl ?_
    refine WL_val (gdY (b := (decide (0 ≤ x10))) 6 rfl rfl hb12) ((o_leq rfl rfl) _) rfl ?_
    refine WL_val gd0 ((o_pickT (v := .bool (decide (x13 ≤ 7))) rfl hb12 rfl) _) rfl ?_
    refine WL_val gd0 ((o_move (v := .bool (decide (x13 ≤ 7))) rfl) _) rfl ?_
    refine bsplit (decide (x13 ≤ 7)) (fun hb15 => ?_) (fun hb15 => ?_)
    · rw [if_pos (of_decide_eq_true hb15)] at h
      refine WL_val (gdY (b := (decide (x13 ≤ 7))) 11 rfl rfl hb15) ((o_fieldAddr 4 Try.underlying24 rfl Try.sizeOf3 rfl rfl rfl) _) rfl ?_
      obtain ⟨x16, hc17, h⟩ := h
      refine WL_val (gdY (b := (decide (x13 ≤ 7))) 11 rfl rfl hb15) (o_load Try.isAgg3 rfl hc17) rfl ?_
      refine WL_val (gdY (b := (decide (x13 ≤ 7))) 11 rfl rfl hb15) ((o_geq rfl rfl) _) rfl ?_
      refine WL_val gd0 ((o_pickT (v := .bool (decide (0 ≤ x16))) rfl hb15 rfl) _) rfl ?_
      refine WL_val gd0 ((o_move (v := .bool (decide (0 ≤ x16))) rfl) _) rfl ?_
      refine bsplit (decide (0 ≤ x16)) (fun hb18 => ?_) (fun hb18 => ?_)
      · rw [if_pos (of_decide_eq_true hb18)] at h
        refine WL_val (gdY (b := (decide (0 ≤ x16))) 16 rfl rfl hb18) ((o_fieldAddr 4 Try.underlying24 rfl Try.sizeOf3 rfl rfl rfl) _) rfl ?_
        obtain ⟨x19, hc20, h⟩ := h
        refine WL_val (gdY (b := (decide (0 ≤ x16))) 16 rfl rfl hb18) (o_load Try.isAgg3 rfl hc20) rfl ?_
        refine WL_val (gdY (b := (decide (0 ≤ x16))) 16 rfl rfl hb18) ((o_leq rfl rfl) _) rfl ?_
        refine WL_val gd0 ((o_pickT (v := .bool (decide (x19 ≤ 3))) rfl hb18 rfl) _) rfl ?_
        refine WL_val gd0 ((o_move (v := .bool (decide (x19 ≤ 3))) rfl) _) rfl ?_
        refine bsplit (decide (x19 ≤ 3)) (fun hb21 => ?_) (fun hb21 => ?_)
        · rw [if_pos (of_decide_eq_true hb21)] at h
          refine WL_val (gdY (b := (decide (x19 ≤ 3))) 21 rfl rfl hb21) ((o_fieldAddr 5 Try.underlying24 rfl Try.sizeOf3 rfl rfl rfl) _) rfl ?_
          obtain ⟨x22, hc23, h⟩ := h
          refine WL_val (gdY (b := (decide (x19 ≤ 3))) 21 rfl rfl hb21) (o_load Try.isAgg3 rfl hc23) rfl ?_
          refine WL_val (gdY (b := (decide (x19 ≤ 3))) 21 rfl rfl hb21) ((o_geq rfl rfl) _) rfl ?_
          refine WL_val gd0 ((o_pickT (v := .bool (decide (0 ≤ x22))) rfl hb21 rfl) _) rfl ?_
          refine WL_val gd0 ((o_move (v := .bool (decide (0 ≤ x22))) rfl) _) rfl ?_
          refine bsplit (decide (0 ≤ x22)) (fun hb24 => ?_) (fun hb24 => ?_)
          · rw [if_pos (of_decide_eq_true hb24)] at h
            refine WL_val (gdY (b := (decide (0 ≤ x22))) 26 rfl rfl hb24) ((o_fieldAddr 5 Try.underlying24 rfl Try.sizeOf3 rfl rfl rfl) _) rfl ?_
            obtain ⟨x25, hc26, h⟩ := h
            refine WL_val (gdY (b := (decide (0 ≤ x22))) 26 rfl rfl hb24) (o_load Try.isAgg3 rfl hc26) rfl ?_
            refine WL_val (gdY (b := (decide (0 ≤ x22))) 26 rfl rfl hb24) ((o_leq rfl rfl) _) rfl ?_
            refine WL_val gd0 ((o_pickT (v := .bool (decide (x25 ≤ 255))) rfl hb24 rfl) _) rfl ?_
            refine WL_val gd0 ((o_assign (v := .bool (decide (x25 ≤ 255))) rfl) _) rfl ?_
            refine WL_nil ?_
            refine nrm ?_
            refine WC_ret ?_
            refine rtE ?_
            exact gv1 rfl rfl h
          · rw [if_neg (of_decide_eq_false hb24)] at h
            refine WL_skip (gdN (b := (decide (0 ≤ x22))) 26 rfl rfl hb24) rfl ?_
            refine WL_skip (gdN (b := (decide (0 ≤ x22))) 26 rfl rfl hb24) rfl ?_
            refine WL_skip (gdN (b := (decide (0 ≤ x22))) 26 rfl rfl hb24) rfl ?_
            refine WL_val gd0 ((o_pickF (v := .bool false) rfl hb24 rfl) _) rfl ?_
            refine WL_val gd0 ((o_assign (v := .bool false) rfl) _) rfl ?_
            refine WL_nil ?_
            refine nrm ?_
            refine WC_ret ?_
            refine rtE ?_
            exact gv1 rfl rfl h
        · rw [if_neg (of_decide_eq_false hb21)] at h
          refine WL_skip (gdN (b := (decide (x19 ≤ 3))) 21 rfl rfl hb21) rfl ?_
          refine WL_skip (gdN (b := (decide (x19 ≤ 3))) 21 rfl rfl hb21) rfl ?_
          refine WL_skip (gdN (b := (decide (x19 ≤ 3))) 21 rfl rfl hb21) rfl ?_
          refine WL_val gd0 ((o_pickF (v := .bool false) rfl hb21 rfl) _) rfl ?_
          refine WL_val gd0 ((o_move (v := .bool false) rfl) _) rfl ?_
          refine WL_skip (gdN (b := false) 26 rfl rfl rfl) rfl ?_
          refine WL_skip (gdN (b := false) 26 rfl rfl rfl) rfl ?_
          refine WL_skip (gdN (b := false) 26 rfl rfl rfl) rfl ?_
          refine WL_val gd0 ((o_pickF (v := .bool false) rfl rfl rfl) _) rfl ?_
          refine WL_val gd0 ((o_assign (v := .bool false) rfl) _) rfl ?_
          refine WL_nil ?_
          refine nrm ?_
          refine WC_ret ?_
          refine rtE ?_
          exact gv1 rfl rfl h
      · rw [if_neg (of_decide_eq_false hb18)] at h
        refine WL_skip (gdN (b := (decide (0 ≤ x16))) 16 rfl rfl hb18) rfl ?_
        refine WL_skip (gdN (b := (decide (0 ≤ x16))) 16 rfl rfl hb18) rfl ?_
        refine WL_skip (gdN (b := (decide (0 ≤ x16))) 16 rfl rfl hb18) rfl ?_
        refine WL_val gd0 ((o_pickF (v := .bool false) rfl hb18 rfl) _) rfl ?_
        refine WL_val gd0 ((o_move (v := .bool false) rfl) _) rfl ?_
        refine WL_skip (gdN (b := false) 21 rfl rfl rfl) rfl ?_
        refine WL_skip (gdN (b := false) 21 rfl rfl rfl) rfl ?_
        refine WL_skip (gdN (b := false) 21 rfl rfl rfl) rfl ?_
        refine WL_val gd0 ((o_pickF (v := .bool false) rfl rfl rfl) _) rfl ?_
        refine WL_val gd0 ((o_move (v := .bool false) rfl) _) rfl ?_
        refine WL_skip (gdN (b := false) 26 rfl rfl rfl) rfl ?_
        refine WL_skip (gdN (b := false) 26 rfl rfl rfl) rfl ?_
        refine WL_skip (gdN (b := false) 26 rfl rfl rfl) rfl ?_
        refine WL_val gd0 ((o_pickF (v := .bool false) rfl rfl rfl) _) rfl ?_
        refine WL_val gd0 ((o_assign (v := .bool false) rfl) _) rfl ?_
        refine WL_nil ?_
        refine nrm ?_
        refine WC_ret ?_
        refine rtE ?_
        exact gv1 rfl rfl h
    · rw [if_neg (of_decide_eq_false hb15)] at h
      refine WL_skip (gdN (b := (decide (x13 ≤ 7))) 11 rfl rfl hb15) rfl ?_
      refine WL_skip (gdN (b := (decide (x13 ≤ 7))) 11 rfl rfl hb15) rfl ?_
      refine WL_skip (gdN (b := (decide (x13 ≤ 7))) 11 rfl rfl hb15) rfl ?_
      refine WL_val gd0 ((o_pickF (v := .bool false) rfl hb15 rfl) _) rfl ?_
      refine WL_val gd0 ((o_move (v := .bool false) rfl) _) rfl ?_
      refine WL_skip (gdN (b := false) 16 rfl rfl rfl) rfl ?_
      refine WL_skip (gdN (b := false) 16 rfl rfl rfl) rfl ?_
      refine WL_skip (gdN (b := false) 16 rfl rfl rfl) rfl ?_
      refine WL_val gd0 ((o_pickF (v := .bool false) rfl rfl rfl) _) rfl ?_
      refine WL_val gd0 ((o_move (v := .bool false) rfl) _) rfl ?_
      refine WL_skip (gdN (b := false) 21 rfl rfl rfl) rfl ?_
      refine WL_skip (gdN (b := false) 21 rfl rfl rfl) rfl ?_
      refine WL_skip (gdN (b := false) 21 rfl rfl rfl) rfl ?_
      refine WL_val gd0 ((o_pickF (v := .bool false) rfl rfl rfl) _) rfl ?_
      refine WL_val gd0 ((o_move (v := .bool false) rfl) _) rfl ?_
      refine WL_skip (gdN (b := false) 26 rfl rfl rfl) rfl ?_
      refine WL_skip (gdN (b := false) 26 rfl rfl rfl) rfl ?_
      refine WL_skip (gdN (b := false) 26 rfl rfl rfl) rfl ?_
      refine WL_val gd0 ((o_pickF (v := .bool false) rfl rfl rfl) _) rfl ?_
      refine WL_val gd0 ((o_assign (v := .bool false) rfl) _) rfl ?_
      refine WL_nil ?_
      refine nrm ?_
      refine WC_ret ?_
      refine rtE ?_
      exact gv1 rfl rfl h
  · rw [if_neg (of_decide_eq_false hb12)] at h
    refine WL_skip (gdN (b := (decide (0 ≤ x10))) 6 rfl rfl hb12) rfl ?_
    refine WL_skip (gdN (b := (decide (0 ≤ x10))) 6 rfl rfl hb12) rfl ?_
    refine WL_skip (gdN (b := (decide (0 ≤ x10))) 6 rfl rfl hb12) rfl ?_
    refine WL_val gd0 ((o_pickF (v := .bool false) rfl hb12 rfl) _) rfl ?_
    refine WL_val gd0 ((o_move (v := .bool false) rfl) _) rfl ?_
    refine WL_skip (gdN (b := false) 11 rfl rfl rfl) rfl ?_
    refine WL_skip (gdN (b := false) 11 rfl rfl rfl) rfl ?_
    refine WL_skip (gdN (b := false) 11 rfl rfl rfl) rfl ?_
    refine WL_val gd0 ((o_pickF (v := .bool false) rfl rfl rfl) _) rfl ?_
    refine WL_val gd0 ((o_move (v := .bool false) rfl) _) rfl ?_
    refine WL_skip (gdN (b := false) 16 rfl rfl rfl) rfl ?_
    refine WL_skip (gdN (b := false) 16 rfl rfl rfl) rfl ?_
    refine WL_skip (gdN (b := false) 16 rfl rfl rfl) rfl ?_
    refine WL_val gd0 ((o_pickF (v := .bool false) rfl rfl rfl) _) rfl ?_
    refine WL_val gd0 ((o_move (v := .bool false) rfl) _) rfl ?_
    refine WL_skip (gdN (b := false) 21 rfl rfl rfl) rfl ?_
    refine WL_skip (gdN (b := false) 21 rfl rfl rfl) rfl ?_
    refine WL_skip (gdN (b := false) 21 rfl rfl rfl) rfl ?_
    refine WL_val gd0 ((o_pickF (v := .bool false) rfl rfl rfl) _) rfl ?_
    refine WL_val gd0 ((o_move (v := .bool false) rfl) _) rfl ?_
    refine WL_skip (gdN (b := false) 26 rfl rfl rfl) rfl ?_
    refine WL_skip (gdN (b := false) 26 rfl rfl rfl) rfl ?_
    refine WL_skip (gdN (b := false) 26 rfl rfl rfl) rfl ?_
    refine WL_val gd0 ((o_pickF (v := .bool false) rfl rfl rfl) _) rfl ?_
    refine WL_val gd0 ((o_assign (v := .bool false) rfl) _) rfl ?_
    refine WL_nil ?_
    refine nrm ?_
    refine WC_ret ?_
    refine rtE ?_
    exact gv1 rfl rfl h

/-- spacecraft crc.Check16 -/
def F29 (b_a1 : Option Addr) (b_n2 : Nat) (b_c3 : Nat) (w4 : World) (k : Value → World → Prop) : Prop :=
  if 0 ≤ (IntKind.i64.wrap ((b_n2 : Int) - 2)) then
  (0 : Int) ≤ IntKind.i64.wrap ((b_n2 : Int) - 2) ∧ IntKind.i64.wrap ((b_n2 : Int) - 2) ≤ (b_c3 : Int) ∧ ∃ (p10 : Addr), b_a1 = some p10 ∧ (0 : Int) ≤ IntKind.i64.wrap ((b_n2 : Int) - 2) ∧ IntKind.i64.wrap ((b_n2 : Int) - 2) < (b_n2 : Int) ∧ ∃ (x12 : Int), w4.drew.cell? (p10.add ((IntKind.i64.wrap ((b_n2 : Int) - 2)).toNat)) = some (.int .u8 x12) ∧ (0 : Int) ≤ IntKind.i64.wrap ((IntKind.i64.wrap ((b_n2 : Int) - 2)) + 1) ∧ IntKind.i64.wrap ((IntKind.i64.wrap ((b_n2 : Int) - 2)) + 1) < (b_n2 : Int) ∧ ∃ (x16 : Int), w4.drew.cell? (p10.add ((IntKind.i64.wrap ((IntKind.i64.wrap ((b_n2 : Int) - 2)) + 1)).toNat)) = some (.int .u8 x16) ∧ Does Try.prog 41 #[.slice b_a1 ((IntKind.i64.wrap ((b_n2 : Int) - 2)).toNat) b_c3] w4.drew (fun v w18 => ∃ (x19 : Int), v = .int .u16 x19 ∧ w18.cell? (p10.add ((IntKind.i64.wrap ((b_n2 : Int) - 2)).toNat)) = some (.int .u8 x12) ∧ w18.cell? (p10.add ((IntKind.i64.wrap ((IntKind.i64.wrap ((b_n2 : Int) - 2)) + 1)).toNat)) = some (.int .u8 x16) ∧ k (.bool (decide (x19 = (bor .u16 (shl .u16 (IntKind.u16.wrap x12) 8) (IntKind.u16.wrap x16))))) w18)
else
  k (.bool false) w4.drew
set_option maxRecDepth 100000 in
set_option maxHeartbeats 2000000 in
theorem w29 (b_a1 : Option Addr) (b_n2 : Nat) (b_c3 : Nat) (w4 : World) (k : Value → World → Prop) (h : F29 b_a1 b_n2 b_c3 w4 k) : Does Try.prog 29 #[.slice b_a1 b_n2 b_c3] w4 k := by
  refine enter 29 Try.func29 rfl rfl rfl ?_
  intro ρ hρ
  have e0 := hρ 0 _ rfl
  unfold F29 at h
  refine WC_seq ?_
  refine WC_region ?_
  refine WL_val gd0 ((o_assign (v := .bool false) rfl) _) rfl ?_
  refine WL_nil ?_
  refine nrm ?_
  refine WC_seq ?_
  refine WC_region ?_
  refine WL_val gd0 ((o_move (v := .slice b_a1 b_n2 b_c3) (by exact e0)) _) rfl ?_
  refine WL_val gd0 ((o_len Try.underlying22 rfl) _) rfl ?_
  refine WL_val gd0 ((o_sub rfl rfl) _) rfl ?_
  refine WL_val gd0 ((o_assign (v := .int .i64 (IntKind.i64.wrap ((b_n2 : Int) - 2))) rfl) _) rfl ?_
  refine WL_nil ?_
  refine nrm ?_
  refine WC_seq ?_
  refine WC_draws [6] (.look 0 (.look 1 (.look 2 (.look 3 (.look 4 (.look 5 (.look 7 (.look 8 (.look 9 (.look 10 (.look 11 (.look 12 (.look 13 (.look 14 (.look 15 (.look 16 (.look 17 (.look 18 (.look 19 (.act 6 (.look 20 (.look 21 (.look 22 .nil))))))))))))))))))))))) Try.mixed (by kernel_rfl) ?_
  refine WQ_val rfl gd0 (o_move (v := .int .i64 (IntKind.i64.wrap ((b_n2 : Int) - 2))) rfl) rfl ?_
  refine WQ_val rfl gd0 (o_geq rfl rfl) rfl ?_
  refine WQ_val rfl gd0 (o_move (v := .bool (decide (0 ≤ (IntKind.i64.wrap ((b_n2 : Int) - 2))))) rfl) rfl ?_
  refine bsplit (decide (0 ≤ (IntKind.i64.wrap ((b_n2 : Int) - 2)))) (fun hb5 => ?_) (fun hb5 => ?_)
  · rw [if_pos (of_decide_eq_true hb5)] at h
    refine WQ_val rfl (gdY (b := (decide (0 ≤ (IntKind.i64.wrap ((b_n2 : Int) - 2))))) 9 rfl rfl hb5) (o_move (v := .slice b_a1 b_n2 b_c3) (by exact e0)) rfl ?_
    refine WQ_val rfl (gdY (b := (decide (0 ≤ (IntKind.i64.wrap ((b_n2 : Int) - 2))))) 9 rfl rfl hb5) (o_move (v := .int .i64 (IntKind.i64.wrap ((b_n2 : Int) - 2))) rfl) rfl ?_
    obtain ⟨c6, c7, h⟩ := h
    refine WQ_val rfl (gdY (b := (decide (0 ≤ (IntKind.i64.wrap ((b_n2 : Int) - 2))))) 9 rfl rfl hb5) (o_sliceH Try.underlying22 Try.sizeOf5 rfl rfl c6 c7) rfl ?_
    refine WQ_val rfl (gdY (b := (decide (0 ≤ (IntKind.i64.wrap ((b_n2 : Int) - 2))))) 9 rfl rfl hb5) (o_move (v := .slice b_a1 b_n2 b_c3) (by exact e0)) rfl ?_
    refine WQ_val rfl (gdY (b := (decide (0 ≤ (IntKind.i64.wrap ((b_n2 : Int) - 2))))) 9 rfl rfl hb5) (o_move (v := .int .i64 (IntKind.i64.wrap ((b_n2 : Int) - 2))) rfl) rfl ?_
    obtain ⟨p10, q11, h⟩ := h
    obtain ⟨l8, u9, h⟩ := h
    refine WQ_val rfl (gdY (b := (decide (0 ≤ (IntKind.i64.wrap ((b_n2 : Int) - 2))))) 9 rfl rfl hb5) (o_indexAddr1 Try.underlying22 Try.sizeOf5 (by exact (congrArg (fun z => Value.slice z b_n2 b_c3) q11)) rfl l8 u9) rfl ?_
    obtain ⟨x12, hc13, h⟩ := h
    refine WQ_look (fun w => w.cell? (p10.add ((IntKind.i64.wrap ((b_n2 : Int) - 2)).toNat)) = some (.int .u8 x12)) rfl (gdY (b := (decide (0 ≤ (IntKind.i64.wrap ((b_n2 : Int) - 2))))) 9 rfl rfl hb5) (fun w hc => (o_load Try.isAgg5 rfl hc)) hc13 rfl ?_
    refine WQ_val rfl (gdY (b := (decide (0 ≤ (IntKind.i64.wrap ((b_n2 : Int) - 2))))) 9 rfl rfl hb5) (o_conv Try.underlying5 Try.underlying50 rfl) rfl ?_
    refine WQ_val rfl (gdY (b := (decide (0 ≤ (IntKind.i64.wrap ((b_n2 : Int) - 2))))) 9 rfl rfl hb5) (o_shl rfl rfl (by decide)) rfl ?_
    refine WQ_val rfl (gdY (b := (decide (0 ≤ (IntKind.i64.wrap ((b_n2 : Int) - 2))))) 9 rfl rfl hb5) (o_move (v := .slice b_a1 b_n2 b_c3) (by exact e0)) rfl ?_
    refine WQ_val rfl (gdY (b := (decide (0 ≤ (IntKind.i64.wrap ((b_n2 : Int) - 2))))) 9 rfl rfl hb5) (o_move (v := .int .i64 (IntKind.i64.wrap ((b_n2 : Int) - 2))) rfl) rfl ?_
    refine WQ_val rfl (gdY (b := (decide (0 ≤ (IntKind.i64.wrap ((b_n2 : Int) - 2))))) 9 rfl rfl hb5) (o_add rfl rfl) rfl ?_
    obtain ⟨l14, u15, h⟩ := h
    refine WQ_val rfl (gdY (b := (decide (0 ≤ (IntKind.i64.wrap ((b_n2 : Int) - 2))))) 9 rfl rfl hb5) (o_indexAddr1 Try.underlying22 Try.sizeOf5 (by exact (congrArg (fun z => Value.slice z b_n2 b_c3) q11)) rfl l14 u15) rfl ?_
    obtain ⟨x16, hc17, h⟩ := h
    refine WQ_look (fun w => w.cell? (p10.add ((IntKind.i64.wrap ((IntKind.i64.wrap ((b_n2 : Int) - 2)) + 1)).toNat)) = some (.int .u8 x16)) rfl (gdY (b := (decide (0 ≤ (IntKind.i64.wrap ((b_n2 : Int) - 2))))) 9 rfl rfl hb5) (fun w hc => (o_load Try.isAgg5 rfl hc)) hc17 rfl ?_
    refine WQ_val rfl (gdY (b := (decide (0 ≤ (IntKind.i64.wrap ((b_n2 : Int) - 2))))) 9 rfl rfl hb5) (o_conv Try.underlying5 Try.underlying50 rfl) rfl ?_
    refine WQ_val rfl (gdY (b := (decide (0 ≤ (IntKind.i64.wrap ((b_n2 : Int) - 2))))) 9 rfl rfl hb5) (o_or rfl rfl) rfl ?_
    refine WQ_call rfl (gdY (b := (decide (0 ≤ (IntKind.i64.wrap ((b_n2 : Int) - 2))))) 9 rfl rfl hb5) (o_call Try.call41 (argCons rfl argNil) _) rfl (h.mono ?_)
    rintro _ w18 ⟨x19, rfl, hh20, hh21, h⟩
    refine ⟨⟨⟨trivial, fun _ => hh20⟩, fun _ => hh21⟩, ?_⟩
    refine WQ_val rfl (gdY (b := (decide (0 ≤ (IntKind.i64.wrap ((b_n2 : Int) - 2))))) 9 rfl rfl hb5) (o_eql rfl rfl) rfl ?_
    refine WQ_val rfl gd0 (o_pickT (v := .bool (decide (x19 = (bor .u16 (shl .u16 (IntKind.u16.wrap x12) 8) (IntKind.u16.wrap x16))))) rfl hb5 rfl) rfl ?_
    refine WQ_val rfl gd0 (o_assign (v := .bool (decide (x19 = (bor .u16 (shl .u16 (IntKind.u16.wrap x12) 8) (IntKind.u16.wrap x16))))) rfl) rfl ?_
    refine WQ_nil ?_
    refine nrm ?_
    refine WC_ret ?_
    refine rtE ?_
    exact gv1 rfl rfl h
  · rw [if_neg (of_decide_eq_false hb5)] at h
    refine WQ_skip rfl (gdN (b := (decide (0 ≤ (IntKind.i64.wrap ((b_n2 : Int) - 2))))) 9 rfl rfl hb5) rfl ?_
    refine WQ_skip rfl (gdN (b := (decide (0 ≤ (IntKind.i64.wrap ((b_n2 : Int) - 2))))) 9 rfl rfl hb5) rfl ?_
    refine WQ_skip rfl (gdN (b := (decide (0 ≤ (IntKind.i64.wrap ((b_n2 : Int) - 2))))) 9 rfl rfl hb5) rfl ?_
    refine WQ_skip rfl (gdN (b := (decide (0 ≤ (IntKind.i64.wrap ((b_n2 : Int) - 2))))) 9 rfl rfl hb5) rfl ?_
    refine WQ_skip rfl (gdN (b := (decide (0 ≤ (IntKind.i64.wrap ((b_n2 : Int) - 2))))) 9 rfl rfl hb5) rfl ?_
    refine WQ_skip rfl (gdN (b := (decide (0 ≤ (IntKind.i64.wrap ((b_n2 : Int) - 2))))) 9 rfl rfl hb5) rfl ?_
    refine WQ_skip rfl (gdN (b := (decide (0 ≤ (IntKind.i64.wrap ((b_n2 : Int) - 2))))) 9 rfl rfl hb5) rfl ?_
    refine WQ_skip rfl (gdN (b := (decide (0 ≤ (IntKind.i64.wrap ((b_n2 : Int) - 2))))) 9 rfl rfl hb5) rfl ?_
    refine WQ_skip rfl (gdN (b := (decide (0 ≤ (IntKind.i64.wrap ((b_n2 : Int) - 2))))) 9 rfl rfl hb5) rfl ?_
    refine WQ_skip rfl (gdN (b := (decide (0 ≤ (IntKind.i64.wrap ((b_n2 : Int) - 2))))) 9 rfl rfl hb5) rfl ?_
    refine WQ_skip rfl (gdN (b := (decide (0 ≤ (IntKind.i64.wrap ((b_n2 : Int) - 2))))) 9 rfl rfl hb5) rfl ?_
    refine WQ_skip rfl (gdN (b := (decide (0 ≤ (IntKind.i64.wrap ((b_n2 : Int) - 2))))) 9 rfl rfl hb5) rfl ?_
    refine WQ_skip rfl (gdN (b := (decide (0 ≤ (IntKind.i64.wrap ((b_n2 : Int) - 2))))) 9 rfl rfl hb5) rfl ?_
    refine WQ_skip rfl (gdN (b := (decide (0 ≤ (IntKind.i64.wrap ((b_n2 : Int) - 2))))) 9 rfl rfl hb5) rfl ?_
    refine WQ_skip rfl (gdN (b := (decide (0 ≤ (IntKind.i64.wrap ((b_n2 : Int) - 2))))) 9 rfl rfl hb5) rfl ?_
    refine WQ_skip rfl (gdN (b := (decide (0 ≤ (IntKind.i64.wrap ((b_n2 : Int) - 2))))) 9 rfl rfl hb5) rfl ?_
    refine WQ_passAct rfl (gdN (b := (decide (0 ≤ (IntKind.i64.wrap ((b_n2 : Int) - 2))))) 9 rfl rfl hb5) rfl (by exact trivial) ?_
    refine WQ_skip rfl (gdN (b := (decide (0 ≤ (IntKind.i64.wrap ((b_n2 : Int) - 2))))) 9 rfl rfl hb5) rfl ?_
    refine WQ_val rfl gd0 (o_pickF (v := .bool false) rfl hb5 rfl) rfl ?_
    refine WQ_val rfl gd0 (o_assign (v := .bool false) rfl) rfl ?_
    refine WQ_nil ?_
    refine nrm ?_
    refine WC_ret ?_
    refine rtE ?_
    exact gv1 rfl rfl h

/-- spacecraft bits.NewReader -/
def F30 (b_a1 : Option Addr) (b_n2 : Nat) (b_c3 : Nat) (w4 : World) (k : Value → World → Prop) : Prop :=
  New w4 5 [] (fun p5 w6 => ∃ (b_a7 : Option Addr) (b_n8 b_c9 : Nat) (w10 : World), (Builtin.append_ #[22, 22] 22 #[.slice (some p5) 0 0, .slice b_a1 b_n2 b_c3]).run Try.prog w6 = .ok (.slice b_a7 b_n8 b_c9) w10 ∧ New w10 71 [.bool true, .slice b_a7 b_n8 b_c9, .int .i64 0, .bool false] (fun p12 w13 => k (.pointer (some p12)) w13))
set_option maxRecDepth 100000 in
set_option maxHeartbeats 2000000 in
theorem w30 (b_a1 : Option Addr) (b_n2 : Nat) (b_c3 : Nat) (w4 : World) (k : Value → World → Prop) (h : F30 b_a1 b_n2 b_c3 w4 k) : Does Try.prog 30 #[.slice b_a1 b_n2 b_c3] w4 k := by
  refine enter 8 Try.func30 rfl rfl rfl ?_
  intro ρ hρ
  have e0 := hρ 0 _ rfl
  unfold F30 at h
  refine WC_seq ?_
  refine WC_region ?_
  refine WL_val gd0 ((o_assign (v := .pointer none) rfl) _) rfl ?_
  refine WL_nil ?_
  refine nrm ?_
  refine WC_seq ?_
  refine WC_region ?_
  have h := New.out h
  refine WL_val gd0 (o_buildSlice (e := 5) (ps := []) (cs := []) partNil (fun w => by kernel_rfl)) rfl ?_
  generalize hp5 : fresh w4 = p5 at h ⊢
  generalize hw6 : push w4 5 [] = w6 at h ⊢
  try dsimp only at h
  refine WL_val gd0 ((o_move (v := .slice b_a1 b_n2 b_c3) (by exact e0)) _) rfl ?_
  obtain ⟨b_a7, b_n8, b_c9, w10, r11, h⟩ := h
  refine WL_val gd0 (o_append rfl rfl r11) rfl ?_
  refine WL_val gd0 ((o_build (ps := [(0, .bool true), (1, .slice b_a7 b_n8 b_c9)]) (v := .agg #[.bool true, .slice b_a7 b_n8 b_c9, .int .i64 0, .bool false]) (partCons rfl (partCons rfl partNil)) (fun w => by kernel_rfl)) _) rfl ?_
  have h := New.out h
  refine WL_val gd0 (o_box (v := .agg #[.bool true, .slice b_a7 b_n8 b_c9, .int .i64 0, .bool false]) (cs := [.bool true, .slice b_a7 b_n8 b_c9, .int .i64 0, .bool false]) rfl rfl) rfl ?_
  generalize hp12 : fresh w10 = p12 at h ⊢
  generalize hw13 : push w10 71 [.bool true, .slice b_a7 b_n8 b_c9, .int .i64 0, .bool false] = w13 at h ⊢
  try dsimp only at h
  refine WL_val gd0 ((o_assign (v := .pointer (some p12)) rfl) _) rfl ?_
  refine WL_nil ?_
  refine nrm ?_
  refine WC_ret ?_
  refine rtE ?_
  exact gv1 rfl rfl h

def F31_j1 (r1 : Option Addr) (width2 : Int) (t10 : Bool) (w11 : World) (k : Value → World → Prop) : Prop :=
  if t10 = true then
  ∃ (p13 : Addr), r1 = some p13 ∧ Put w11 (p13.add 3) (.bool true) (fun w15 => k (.tuple #[]) w15)
else
  ∃ (p17 : Addr), r1 = some p17 ∧ ∃ (x19 : Int), w11.cell? (p17.add 2) = some (.int .i64 x19) ∧ Put w11 (p17.add 2) (.int .i64 (IntKind.i64.wrap (x19 + width2))) (fun w21 => k (.tuple #[]) w21)
/-- (*spacecraft bits.Reader).Skip -/
def F31 (r1 : Option Addr) (width2 : Int) (w3 : World) (k : Value → World → Prop) : Prop :=
  Does Try.prog 46 #[.pointer r1] w3 (fun v w4 => ∃ (x5 : Bool), v = .bool x5 ∧ if (!x5) = true then
  k (.tuple #[]) w4
else
  if width2 < 0 then
    F31_j1 r1 width2 true w4 k
  else
    Does Try.prog 47 #[.pointer r1] w4 (fun v w24 => ∃ (x25 : Int), v = .int .i64 x25 ∧ F31_j1 r1 width2 (decide (x25 < width2)) w24 k))
set_option maxRecDepth 100000 in
set_option maxHeartbeats 2000000 in
theorem w31 (r1 : Option Addr) (width2 : Int) (w3 : World) (k : Value → World → Prop) (h : F31 r1 width2 w3 k) : Does Try.prog 31 #[.pointer r1, .int .i64 width2] w3 k := by
  refine enter 26 Try.func31 rfl rfl rfl ?_
  intro ρ hρ
  have e0 := hρ 0 _ rfl
  have e1 := hρ 1 _ rfl
  unfold F31 at h
  refine WC_seq ?_
  refine WC_seq ?_
  refine WC_region ?_
  refine WL_val gd0 ((o_move (v := .pointer r1) (by exact e0)) _) rfl ?_
  refine WL_call gd0 (o_call Try.call46 (argCons rfl argNil) _) rfl (h.mono ?_)
  rintro _ w4 ⟨x5, rfl, h⟩
  refine WL_val gd0 ((o_not rfl) _) rfl ?_
  refine WL_nil ?_
  refine nrm ?_
  refine WC_cond (t := (!x5)) rfl (fun hb6 => ?_) (fun hb6 => ?_)
  · rw [if_pos hb6] at h
    refine WC_ret ?_
    refine rtT ?_
    refine rtE ?_
    exact gv0 rfl h
  · rw [if_neg (neT hb6)] at h
    refine WC_skip ?_
    refine nrm ?_
    refine WC_seq ?_
    refine WC_cut (fun ρ w' => ∃ (t10 : Bool), ρ 14 = .bool t10 ∧ ρ 0 = .pointer r1 ∧ ρ 1 = .int .i64 width2 ∧ F31_j1 r1 width2 t10 w' k) ?_ ?_
    · refine WC_region ?_
      refine WL_val gd0 ((o_move (v := .int .i64 width2) (by exact e1)) _) rfl ?_
      refine WL_val gd0 ((o_lss rfl rfl) _) rfl ?_
      refine WL_val gd0 ((o_move (v := .bool (decide (width2 < 0))) rfl) _) rfl ?_
      refine bsplit (decide (width2 < 0)) (fun hb23 => ?_) (fun hb23 => ?_)
      · rw [if_pos (of_decide_eq_true hb23)] at h
        refine WL_skip (gdN (b := (decide (width2 < 0))) 9 rfl rfl hb23) rfl ?_
        refine WL_skip (gdN (b := (decide (width2 < 0))) 9 rfl rfl hb23) rfl ?_
        refine WL_skip (gdN (b := (decide (width2 < 0))) 9 rfl rfl hb23) rfl ?_
        refine WL_skip (gdN (b := (decide (width2 < 0))) 9 rfl rfl hb23) rfl ?_
        refine WL_val gd0 ((o_pickT (v := .bool true) rfl hb23 rfl) _) rfl ?_
        refine WL_nil ?_
        refine nrm ?_
        exact ⟨_, rfl, e0, e1, h⟩
      · rw [if_neg (of_decide_eq_false hb23)] at h
        refine WL_val (gdY (b := (decide (width2 < 0))) 9 rfl rfl hb23) ((o_move (v := .int .i64 width2) (by exact e1)) _) rfl ?_
        refine WL_val (gdY (b := (decide (width2 < 0))) 9 rfl rfl hb23) ((o_move (v := .pointer r1) (by exact e0)) _) rfl ?_
        refine WL_call (gdY (b := (decide (width2 < 0))) 9 rfl rfl hb23) (o_call Try.call47 (argCons rfl argNil) _) rfl (h.mono ?_)
        rintro _ w24 ⟨x25, rfl, h⟩
        refine WL_val (gdY (b := (decide (width2 < 0))) 9 rfl rfl hb23) ((o_gtr rfl rfl) _) rfl ?_
        refine WL_val gd0 ((o_pickF (v := .bool (decide (x25 < width2))) rfl hb23 rfl) _) rfl ?_
        refine WL_nil ?_
        refine nrm ?_
        exact ⟨_, rfl, e0, e1, h⟩
    · rintro ρ w11 ⟨t10, e14_9, e0_7, e1_8, h⟩
      unfold F31_j1 at h
      refine WC_cond (t := t10) (by exact e14_9) (fun hb12 => ?_) (fun hb12 => ?_)
      · rw [if_pos hb12] at h
        refine WC_seq ?_
        refine WC_region ?_
        refine WL_val gd0 ((o_move (v := .pointer r1) (by exact e0_7)) _) rfl ?_
        obtain ⟨p13, q14, h⟩ := h
        refine WL_val gd0 ((o_nilCheck (by exact (congrArg Value.pointer q14))) _) rfl ?_
        refine WL_val gd0 ((o_fieldAddr 3 Try.underlying71 rfl Try.sizeOf4 rfl rfl rfl) _) rfl ?_
        obtain ⟨c16, h⟩ := h
        refine WL_act gd0 (o_store (v := .bool true) Try.sizeOf4 rfl rfl rfl c16) ?_
        generalize hw15 : World.setCell w11 (p13.add 3) (.bool true) = w15 at h ⊢
        try dsimp only at h
        refine WL_nil ?_
        refine nrm ?_
        refine WC_ret ?_
        refine rtT ?_
        refine rtE ?_
        exact gv0 rfl h
      · rw [if_neg (neT hb12)] at h
        refine WC_skip ?_
        refine nrm ?_
        refine WC_region ?_
        refine WL_val gd0 ((o_move (v := .pointer r1) (by exact e0_7)) _) rfl ?_
        obtain ⟨p17, q18, h⟩ := h
        refine WL_val gd0 ((o_nilCheck (by exact (congrArg Value.pointer q18))) _) rfl ?_
        refine WL_val gd0 ((o_fieldAddr 2 Try.underlying71 rfl Try.sizeOf3 rfl rfl rfl) _) rfl ?_
        obtain ⟨x19, hc20, h⟩ := h
        refine WL_val gd0 (o_load Try.isAgg3 rfl hc20) rfl ?_
        refine WL_val gd0 ((o_move (v := .int .i64 width2) (by exact e1_8)) _) rfl ?_
        refine WL_val gd0 ((o_add rfl rfl) _) rfl ?_
        refine WL_val gd0 ((o_nilCheck (by exact (congrArg Value.pointer q18))) _) rfl ?_
        refine WL_val gd0 ((o_fieldAddr 2 Try.underlying71 rfl Try.sizeOf3 rfl rfl rfl) _) rfl ?_
        obtain ⟨c22, h⟩ := h
        refine WL_act gd0 (o_store (v := .int .i64 (IntKind.i64.wrap (x19 + width2))) Try.sizeOf3 rfl rfl rfl c22) ?_
        generalize hw21 : World.setCell w11 (p17.add 2) (.int .i64 (IntKind.i64.wrap (x19 + width2))) = w21 at h ⊢
        try dsimp only at h
        refine WL_nil ?_
        refine ndE ?_
        exact gv0 rfl h

def F32_b2 (width2 : Int) (r1 : Option Addr) (n19 : Int) (t22 : Int) (w23 : World) (nx23 : Int → Int → World → Prop) (k : Value → World → Prop) : Prop :=
  if t22 < width2 then
  ∃ (p26 : Addr), r1 = some p26 ∧ ∃ (x_a28 : Option Addr) (x_n29 x_c30 : Nat), w23.drew.cell? (p26.add 1) = some (.slice x_a28 x_n29 x_c30) ∧ ∃ (x32 : Int), w23.drew.cell? (p26.add 2) = some (.int .i64 x32) ∧ ∃ (p36 : Addr), x_a28 = some p36 ∧ (0 : Int) ≤ IntKind.i64.wrap (Int.tdiv x32 8) ∧ IntKind.i64.wrap (Int.tdiv x32 8) < (x_n29 : Int) ∧ ∃ (x38 : Int), w23.drew.cell? (p36.add ((IntKind.i64.wrap (Int.tdiv x32 8)).toNat)) = some (.int .u8 x38) ∧ ∃ (x40 : Int), w23.drew.cell? (p26.add 2) = some (.int .i64 x40) ∧ (0 : Int) ≤ IntKind.i64.wrap (7 - (Int.tmod x40 8)) ∧ ∃ (x43 : Int), w23.drew.cell? (p26.add 2) = some (.int .i64 x43) ∧ Put w23.drew (p26.add 2) (.int .i64 (IntKind.i64.wrap (x43 + 1))) (fun w45 => nx23 (bor .u64 (shl .u64 n19 1) (IntKind.u64.wrap (band .u8 (shr .u8 x38 (IntKind.i64.wrap (7 - (Int.tmod x40 8)))) 1))) (IntKind.i64.wrap (t22 + 1)) w45)
else
  k (.int .u64 n19) w23
def F32_j1 (r1 : Option Addr) (width2 : Int) (t10 : Bool) (w11 : World) (k : Value → World → Prop) : Prop :=
  if t10 = true then
  ∃ (p13 : Addr), r1 = some p13 ∧ Put w11 (p13.add 3) (.bool true) (fun w15 => k (.int .u64 0) w15)
else
  LoopP (fun (s : Int × Int) w' nx' => F32_b2 width2 r1 (s.1) (s.2) w' (fun x0 x1 w => nx' (x0, x1) w) k) (0, 0) w11
/-- (*spacecraft bits.Reader).Get -/
def F32 (r1 : Option Addr) (width2 : Int) (w3 : World) (k : Value → World → Prop) : Prop :=
  Does Try.prog 46 #[.pointer r1] w3 (fun v w4 => ∃ (x5 : Bool), v = .bool x5 ∧ if (!x5) = true then
  k (.int .u64 0) w4
else
  if width2 < 0 then
    F32_j1 r1 width2 true w4 k
  else
    if 64 < width2 then
      F32_j1 r1 width2 true w4 k
    else
      Does Try.prog 47 #[.pointer r1] w4 (fun v w49 => ∃ (x50 : Int), v = .int .i64 x50 ∧ F32_j1 r1 width2 (decide (x50 < width2)) w49 k))
set_option maxRecDepth 100000 in
set_option maxHeartbeats 2000000 in
theorem w32 (r1 : Option Addr) (width2 : Int) (w3 : World) (k : Value → World → Prop) (h : F32 r1 width2 w3 k) : Does Try.prog 32 #[.pointer r1, .int .i64 width2] w3 k := by
  refine enter 59 Try.func32 rfl rfl rfl ?_
  intro ρ hρ
  have e0 := hρ 0 _ rfl
  have e1 := hρ 1 _ rfl
  unfold F32 at h
  refine WC_seq ?_
  refine WC_region ?_
  refine WL_val gd0 ((o_assign (v := .int .u64 0) rfl) _) rfl ?_
  refine WL_nil ?_
  refine nrm ?_
  refine WC_seq ?_
  refine WC_seq ?_
  refine WC_region ?_
  refine WL_val gd0 ((o_move (v := .pointer r1) (by exact e0)) _) rfl ?_
  refine WL_call gd0 (o_call Try.call46 (argCons rfl argNil) _) rfl (h.mono ?_)
  rintro _ w4 ⟨x5, rfl, h⟩
  refine WL_val gd0 ((o_not rfl) _) rfl ?_
  refine WL_nil ?_
  refine nrm ?_
  refine WC_cond (t := (!x5)) rfl (fun hb6 => ?_) (fun hb6 => ?_)
  · rw [if_pos hb6] at h
    refine WC_seq ?_
    refine WC_region ?_
    refine WL_val gd0 ((o_assign (v := .int .u64 0) rfl) _) rfl ?_
    refine WL_nil ?_
    refine nrm ?_
    refine WC_ret ?_
    refine rtT ?_
    refine rtE ?_
    exact gv1 rfl rfl h
  · rw [if_neg (neT hb6)] at h
    refine WC_skip ?_
    refine nrm ?_
    refine WC_seq ?_
    refine WC_cut (fun ρ w' => ∃ (t10 : Bool), ρ 20 = .bool t10 ∧ ρ 0 = .pointer r1 ∧ ρ 1 = .int .i64 width2 ∧ F32_j1 r1 width2 t10 w' k) ?_ ?_
    · refine WC_region ?_
      refine WL_val gd0 ((o_move (v := .int .i64 width2) (by exact e1)) _) rfl ?_
      refine WL_val gd0 ((o_lss rfl rfl) _) rfl ?_
      refine WL_val gd0 ((o_move (v := .bool (decide (width2 < 0))) rfl) _) rfl ?_
      refine bsplit (decide (width2 < 0)) (fun hb47 => ?_) (fun hb47 => ?_)
      · rw [if_pos (of_decide_eq_true hb47)] at h
        refine WL_skip (gdN (b := (decide (width2 < 0))) 11 rfl rfl hb47) rfl ?_
        refine WL_skip (gdN (b := (decide (width2 < 0))) 11 rfl rfl hb47) rfl ?_
        refine WL_val gd0 ((o_pickT (v := .bool true) rfl hb47 rfl) _) rfl ?_
        refine WL_val gd0 ((o_move (v := .bool true) rfl) _) rfl ?_
        refine WL_skip (gdN (b := true) 15 rfl rfl rfl) rfl ?_
        refine WL_skip (gdN (b := true) 15 rfl rfl rfl) rfl ?_
        refine WL_skip (gdN (b := true) 15 rfl rfl rfl) rfl ?_
        refine WL_skip (gdN (b := true) 15 rfl rfl rfl) rfl ?_
        refine WL_val gd0 ((o_pickT (v := .bool true) rfl rfl rfl) _) rfl ?_
        refine WL_nil ?_
        refine nrm ?_
        exact ⟨_, rfl, e0, e1, h⟩
      · rw [if_neg (of_decide_eq_false hb47)] at h
        refine WL_val (gdY (b := (decide (width2 < 0))) 11 rfl rfl hb47) ((o_move (v := .int .i64 width2) (by exact e1)) _) rfl ?_
        refine WL_val (gdY (b := (decide (width2 < 0))) 11 rfl rfl hb47) ((o_gtr rfl rfl) _) rfl ?_
        refine WL_val gd0 ((o_pickF (v := .bool (decide (64 < width2))) rfl hb47 rfl) _) rfl ?_
        refine WL_val gd0 ((o_move (v := .bool (decide (64 < width2))) rfl) _) rfl ?_
        refine bsplit (decide (64 < width2)) (fun hb48 => ?_) (fun hb48 => ?_)
        · rw [if_pos (of_decide_eq_true hb48)] at h
          refine WL_skip (gdN (b := (decide (64 < width2))) 15 rfl rfl hb48) rfl ?_
          refine WL_skip (gdN (b := (decide (64 < width2))) 15 rfl rfl hb48) rfl ?_
          refine WL_skip (gdN (b := (decide (64 < width2))) 15 rfl rfl hb48) rfl ?_
          refine WL_skip (gdN (b := (decide (64 < width2))) 15 rfl rfl hb48) rfl ?_
          refine WL_val gd0 ((o_pickT (v := .bool true) rfl hb48 rfl) _) rfl ?_
          refine WL_nil ?_
          refine nrm ?_
          exact ⟨_, rfl, e0, e1, h⟩
        · rw [if_neg (of_decide_eq_false hb48)] at h
          refine WL_val (gdY (b := (decide (64 < width2))) 15 rfl rfl hb48) ((o_move (v := .int .i64 width2) (by exact e1)) _) rfl ?_
          refine WL_val (gdY (b := (decide (64 < width2))) 15 rfl rfl hb48) ((o_move (v := .pointer r1) (by exact e0)) _) rfl ?_
          refine WL_call (gdY (b := (decide (64 < width2))) 15 rfl rfl hb48) (o_call Try.call47 (argCons rfl argNil) _) rfl (h.mono ?_)
          rintro _ w49 ⟨x50, rfl, h⟩
          refine WL_val (gdY (b := (decide (64 < width2))) 15 rfl rfl hb48) ((o_gtr rfl rfl) _) rfl ?_
          refine WL_val gd0 ((o_pickF (v := .bool (decide (x50 < width2))) rfl hb48 rfl) _) rfl ?_
          refine WL_nil ?_
          refine nrm ?_
          exact ⟨_, rfl, e0, e1, h⟩
    · rintro ρ w11 ⟨t10, e20_9, e0_7, e1_8, h⟩
      unfold F32_j1 at h
      refine WC_cond (t := t10) (by exact e20_9) (fun hb12 => ?_) (fun hb12 => ?_)
      · rw [if_pos hb12] at h
        refine WC_seq ?_
        refine WC_region ?_
        refine WL_val gd0 ((o_move (v := .pointer r1) (by exact e0_7)) _) rfl ?_
        obtain ⟨p13, q14, h⟩ := h
        refine WL_val gd0 ((o_nilCheck (by exact (congrArg Value.pointer q14))) _) rfl ?_
        refine WL_val gd0 ((o_fieldAddr 3 Try.underlying71 rfl Try.sizeOf4 rfl rfl rfl) _) rfl ?_
        obtain ⟨c16, h⟩ := h
        refine WL_act gd0 (o_store (v := .bool true) Try.sizeOf4 rfl rfl rfl c16) ?_
        generalize hw15 : World.setCell w11 (p13.add 3) (.bool true) = w15 at h ⊢
        try dsimp only at h
        refine WL_nil ?_
        refine nrm ?_
        refine WC_seq ?_
        refine WC_region ?_
        refine WL_val gd0 ((o_assign (v := .int .u64 0) rfl) _) rfl ?_
        refine WL_nil ?_
        refine nrm ?_
        refine WC_ret ?_
        refine rtT ?_
        refine rtE ?_
        exact gv1 rfl rfl h
      · rw [if_neg (neT hb12)] at h
        refine WC_skip ?_
        refine nrm ?_
        refine WC_seq ?_
        refine WC_region ?_
        refine WL_val gd0 ((o_assign (v := .int .u64 0) rfl) _) rfl ?_
        refine WL_nil ?_
        refine nrm ?_
        refine WC_seq ?_
        refine WC_seq ?_
        refine WC_region ?_
        refine WL_val gd0 ((o_move (v := .int .i64 width2) (by exact e1_8)) _) rfl ?_
        refine WL_val gd0 ((o_move (v := .int .i64 0) rfl) _) rfl ?_
        refine WL_nil ?_
        refine nrm ?_
        refine WC_block ?_
        obtain ⟨J23, ⟨n23, h0⟩, hr23⟩ := h
        refine WC_loop (fun n ρ w' => ∃ (n19 t22 : Int), ρ 5 = .int .u64 n19 ∧ ρ 25 = .int .i64 t22 ∧ ρ 0 = .pointer r1 ∧ ρ 24 = .int .i64 width2 ∧ J23 n (n19, t22) w') ⟨n23, _, _, rfl, rfl, e0_7, rfl, h0⟩ ?_
        rintro n23 ρ w23 ⟨n19, t22, e5_18, e25_21, e0_17, e24_20, h⟩
        have h : F32_b2 width2 r1 n19 t22 w23 (fun x0 x1 w => ∃ m, m < n23 ∧ J23 m (x0, x1) w) k := hr23 n23 (n19, t22) w23 h
        unfold F32_b2 at h
        refine WC_seq ?_
        refine WC_region ?_
        refine WL_val gd0 ((o_lss (by exact e25_21) (by exact e24_20)) _) rfl ?_
        refine WL_nil ?_
        refine nrm ?_
        refine WC_seq ?_
        refine WC_cond (t := (decide (t22 < width2))) rfl (fun hb25 => ?_) (fun hb25 => ?_)
        · rw [if_pos (of_decide_eq_true hb25)] at h
          refine WC_skip ?_
          refine nrm ?_
          refine WC_seq ?_
          refine WC_block ?_
          refine WC_seq ?_
          refine WC_draws [] (.look 0 (.look 1 (.look 2 (.look 3 (.look 4 (.look 5 (.look 6 (.look 7 (.look 8 (.look 9 (.look 10 (.look 11 (.look 12 (.look 13 (.look 14 (.look 15 (.look 16 (.look 17 (.look 18 (.look 19 (.look 20 (.look 21 (.look 22 (.look 23 .nil)))))))))))))))))))))))) Try.mixed (by kernel_rfl) ?_
          refine WQ_val rfl gd0 (o_move (v := .int .u64 n19) (by exact e5_18)) rfl ?_
          refine WQ_val rfl gd0 (o_shl rfl rfl (by decide)) rfl ?_
          refine WQ_val rfl gd0 (o_move (v := .pointer r1) (by exact e0_17)) rfl ?_
          obtain ⟨p26, q27, h⟩ := h
          refine WQ_val rfl gd0 (o_nilCheck (by exact (congrArg Value.pointer q27))) rfl ?_
          refine WQ_val rfl gd0 (o_fieldAddr 1 Try.underlying71 rfl Try.sizeOf22 rfl rfl rfl) rfl ?_
          obtain ⟨x_a28, x_n29, x_c30, hc31, h⟩ := h
          refine WQ_look (fun w => w.cell? (p26.add 1) = some (.slice x_a28 x_n29 x_c30)) rfl gd0 (fun w hc => (o_load Try.isAgg22 rfl hc)) hc31 rfl ?_
          refine WQ_val rfl gd0 (o_move (v := .pointer r1) (by exact e0_17)) rfl ?_
          refine WQ_val rfl gd0 (o_nilCheck (by exact (congrArg Value.pointer q27))) rfl ?_
          refine WQ_val rfl gd0 (o_fieldAddr 2 Try.underlying71 rfl Try.sizeOf3 rfl rfl rfl) rfl ?_
          obtain ⟨x32, hc33, h⟩ := h
          refine WQ_look (fun w => w.cell? (p26.add 2) = some (.int .i64 x32)) rfl gd0 (fun w hc => (o_load Try.isAgg3 rfl hc)) hc33 rfl ?_
          refine WQ_val rfl gd0 (fun w => o_quo rfl rfl w (by decide)) rfl ?_
          obtain ⟨p36, q37, h⟩ := h
          obtain ⟨l34, u35, h⟩ := h
          refine WQ_val rfl gd0 (o_indexAddr1 Try.underlying22 Try.sizeOf5 (by exact (congrArg (fun z => Value.slice z x_n29 x_c30) q37)) rfl l34 u35) rfl ?_
          obtain ⟨x38, hc39, h⟩ := h
          refine WQ_look (fun w => w.cell? (p36.add ((IntKind.i64.wrap (Int.tdiv x32 8)).toNat)) = some (.int .u8 x38)) rfl gd0 (fun w hc => (o_load Try.isAgg5 rfl hc)) hc39 rfl ?_
          refine WQ_val rfl gd0 (o_move (v := .pointer r1) (by exact e0_17)) rfl ?_
          refine WQ_val rfl gd0 (o_nilCheck (by exact (congrArg Value.pointer q27))) rfl ?_
          refine WQ_val rfl gd0 (o_fieldAddr 2 Try.underlying71 rfl Try.sizeOf3 rfl rfl rfl) rfl ?_
          obtain ⟨x40, hc41, h⟩ := h
          refine WQ_look (fun w => w.cell? (p26.add 2) = some (.int .i64 x40)) rfl gd0 (fun w hc => (o_load Try.isAgg3 rfl hc)) hc41 rfl ?_
          refine WQ_val rfl gd0 (fun w => o_rem rfl rfl w (by decide)) rfl ?_
          refine WQ_val rfl gd0 (o_sub rfl rfl) rfl ?_
          obtain ⟨c42, h⟩ := h
          refine WQ_val rfl gd0 (o_shr rfl rfl c42) rfl ?_
          refine WQ_val rfl gd0 (o_and rfl rfl) rfl ?_
          refine WQ_val rfl gd0 (o_conv Try.underlying5 Try.underlying41 rfl) rfl ?_
          refine WQ_val rfl gd0 (o_or rfl rfl) rfl ?_
          refine WQ_val rfl gd0 (o_assign (v := .int .u64 (bor .u64 (shl .u64 n19 1) (IntKind.u64.wrap (band .u8 (shr .u8 x38 (IntKind.i64.wrap (7 - (Int.tmod x40 8)))) 1)))) rfl) rfl ?_
          refine WQ_nil ?_
          refine nrm ?_
          refine WC_region ?_
          refine WL_val gd0 ((o_move (v := .pointer r1) (by exact e0_17)) _) rfl ?_
          refine WL_val gd0 ((o_nilCheck (by exact (congrArg Value.pointer q27))) _) rfl ?_
          refine WL_val gd0 ((o_fieldAddr 2 Try.underlying71 rfl Try.sizeOf3 rfl rfl rfl) _) rfl ?_
          obtain ⟨x43, hc44, h⟩ := h
          refine WL_val gd0 (o_load Try.isAgg3 rfl hc44) rfl ?_
          refine WL_val gd0 ((o_add rfl rfl) _) rfl ?_
          refine WL_val gd0 ((o_nilCheck (by exact (congrArg Value.pointer q27))) _) rfl ?_
          refine WL_val gd0 ((o_fieldAddr 2 Try.underlying71 rfl Try.sizeOf3 rfl rfl rfl) _) rfl ?_
          obtain ⟨c46, h⟩ := h
          refine WL_act gd0 (o_store (v := .int .i64 (IntKind.i64.wrap (x43 + 1))) Try.sizeOf3 rfl rfl rfl c46) ?_
          generalize hw45 : World.setCell w23.drew (p26.add 2) (.int .i64 (IntKind.i64.wrap (x43 + 1))) = w45 at h ⊢
          try dsimp only at h
          refine WL_nil ?_
          refine nrmB ?_
          refine nrm ?_
          refine WC_region ?_
          refine WL_val gd0 ((o_add (by exact e25_21) rfl) _) rfl ?_
          refine WL_val gd0 ((o_move (v := .int .i64 (IntKind.i64.wrap (t22 + 1))) rfl) _) rfl ?_
          refine WL_nil ?_
          refine nrm ?_
          obtain ⟨m24, hm24, h⟩ := h
          exact ⟨m24, hm24, _, _, rfl, rfl, e0_17, e24_20, h⟩
        · rw [if_neg (of_decide_eq_false hb25)] at h
          refine WC_exit ?_
          refine exT ?_
          refine exT ?_
          refine exB ?_
          refine nrm ?_
          refine WC_seq ?_
          refine WC_region ?_
          refine WL_val gd0 ((o_move (v := .int .u64 n19) (by exact e5_18)) _) rfl ?_
          refine WL_val gd0 ((o_assign (v := .int .u64 n19) rfl) _) rfl ?_
          refine WL_nil ?_
          refine nrm ?_
          refine WC_ret ?_
          refine rtE ?_
          exact gv1 rfl rfl h

/-- bytes.Clone -/
def F33 (b_a1 : Option Addr) (b_n2 : Nat) (b_c3 : Nat) (w4 : World) (k : Value → World → Prop) : Prop :=
  if (b_a1).isNone = true then
  k (.slice none 0 0) w4
else
  New w4 5 [] (fun p6 w7 => ∃ (b_a8 : Option Addr) (b_n9 b_c10 : Nat) (w11 : World), (Builtin.append_ #[22, 22] 22 #[.slice (some p6) 0 0, .slice b_a1 b_n2 b_c3]).run Try.prog w7 = .ok (.slice b_a8 b_n9 b_c10) w11 ∧ k (.slice b_a8 b_n9 b_c10) w11)
set_option maxRecDepth 100000 in
set_option maxHeartbeats 2000000 in
theorem w33 (b_a1 : Option Addr) (b_n2 : Nat) (b_c3 : Nat) (w4 : World) (k : Value → World → Prop) (h : F33 b_a1 b_n2 b_c3 w4 k) : Does Try.prog 33 #[.slice b_a1 b_n2 b_c3] w4 k := by
  refine enter 8 Try.func33 rfl rfl rfl ?_
  intro ρ hρ
  have e0 := hρ 0 _ rfl
  unfold F33 at h
  refine WC_seq ?_
  refine WC_region ?_
  refine WL_val gd0 ((o_assign (v := .slice none 0 0) rfl) _) rfl ?_
  refine WL_nil ?_
  refine nrm ?_
  refine WC_seq ?_
  refine WC_seq ?_
  refine WC_region ?_
  refine WL_val gd0 ((o_move (v := .slice b_a1 b_n2 b_c3) (by exact e0)) _) rfl ?_
  refine WL_val gd0 ((o_eqlSliceNil Try.underlying22 rfl rfl) _) rfl ?_
  refine WL_nil ?_
  refine nrm ?_
  refine WC_cond (t := ((b_a1).isNone)) rfl (fun hb5 => ?_) (fun hb5 => ?_)
  · rw [if_pos hb5] at h
    refine WC_seq ?_
    refine WC_region ?_
    refine WL_val gd0 ((o_assign (v := .slice none 0 0) rfl) _) rfl ?_
    refine WL_nil ?_
    refine nrm ?_
    refine WC_ret ?_
    refine rtT ?_
    refine rtE ?_
    exact gv1 rfl rfl h
  · rw [if_neg (neT hb5)] at h
    refine WC_skip ?_
    refine nrm ?_
    refine WC_seq ?_
    refine WC_region ?_
    have h := New.out h
    refine WL_val gd0 (o_buildSlice (e := 5) (ps := []) (cs := []) partNil (fun w => by kernel_rfl)) rfl ?_
    generalize hp6 : fresh w4 = p6 at h ⊢
    generalize hw7 : push w4 5 [] = w7 at h ⊢
    try dsimp only at h
    refine WL_val gd0 ((o_move (v := .slice b_a1 b_n2 b_c3) (by exact e0)) _) rfl ?_
    obtain ⟨b_a8, b_n9, b_c10, w11, r12, h⟩ := h
    refine WL_val gd0 (o_append rfl rfl r12) rfl ?_
    refine WL_val gd0 ((o_assign (v := .slice b_a8 b_n9 b_c10) rfl) _) rfl ?_
    refine WL_nil ?_
    refine nrm ?_
    refine WC_ret ?_
    refine rtE ?_
    exact gv1 rfl rfl h

def F34_j1 (p5 : Addr) (p32 : Addr) (t73 : Bool) (w74 : World) (k : Value → World → Prop) : Prop :=
  if t73 = true then
  PutAll w74 p5 [.int .i64 0, .bool false, .bool false, .bool false, .int .i64 0, .int .i64 0] (fun w76 => ∃ (r78 : Int) (r79 r80 r81 : Bool) (r82 r83 : Int), Cells w76 p5 0 [.int .i64 r78, .bool r79, .bool r80, .bool r81, .int .i64 r82, .int .i64 r83] ∧ k (.tuple #[.agg #[.int .i64 r78, .bool r79, .bool r80, .bool r81, .int .i64 r82, .int .i64 r83], .int .i64 4]) w76)
else
  ∃ (x85 : Int) (x86 x87 x88 : Bool) (x89 x90 : Int), Cells w74 p32 0 [.int .i64 x85, .bool x86, .bool x87, .bool x88, .int .i64 x89, .int .i64 x90] ∧ PutAll w74 p5 [.int .i64 x85, .bool x86, .bool x87, .bool x88, .int .i64 x89, .int .i64 x90] (fun w92 => ∃ (r94 : Int) (r95 r96 r97 : Bool) (r98 r99 : Int), Cells w92 p5 0 [.int .i64 r94, .bool r95, .bool r96, .bool r97, .int .i64 r98, .int .i64 r99] ∧ k (.tuple #[.agg #[.int .i64 r94, .bool r95, .bool r96, .bool r97, .int .i64 r98, .int .i64 r99], .int .i64 0]) w92)
/-- spacecraft clcw.Decode -/
def F34 (b_a1 : Option Addr) (b_n2 : Nat) (b_c3 : Nat) (w4 : World) (k : Value → World → Prop) : Prop :=
  New w4 24 [.int .i64 0, .bool false, .bool false, .bool false, .int .i64 0, .int .i64 0] (fun p5 w6 => if (b_n2 : Int) < 4 then
  PutAll w6 p5 [.int .i64 0, .bool false, .bool false, .bool false, .int .i64 0, .int .i64 0] (fun w8 => ∃ (r10 : Int) (r11 r12 r13 : Bool) (r14 r15 : Int), Cells w8 p5 0 [.int .i64 r10, .bool r11, .bool r12, .bool r13, .int .i64 r14, .int .i64 r15] ∧ k (.tuple #[.agg #[.int .i64 r10, .bool r11, .bool r12, .bool r13, .int .i64 r14, .int .i64 r15], .int .i64 3]) w8)
else
  if 4 < (b_n2 : Int) then
    PutAll w6 p5 [.int .i64 0, .bool false, .bool false, .bool false, .int .i64 0, .int .i64 0] (fun w18 => ∃ (r20 : Int) (r21 r22 r23 : Bool) (r24 r25 : Int), Cells w18 p5 0 [.int .i64 r20, .bool r21, .bool r22, .bool r23, .int .i64 r24, .int .i64 r25] ∧ k (.tuple #[.agg #[.int .i64 r20, .bool r21, .bool r22, .bool r23, .int .i64 r24, .int .i64 r25], .int .i64 6]) w18)
  else
    Does Try.prog 30 #[.slice b_a1 b_n2 b_c3] w6 (fun v w27 => ∃ (r28 : Option Addr), v = .pointer r28 ∧ Does Try.prog 31 #[.pointer r28, .int .i64 8] w27 (fun v w29 => v = .tuple #[] ∧ Does Try.prog 32 #[.pointer r28, .int .i64 6] w29 (fun v w30 => ∃ (x31 : Int), v = .int .u64 x31 ∧ New w30 24 [.int .i64 0, .bool false, .bool false, .bool false, .int .i64 0, .int .i64 0] (fun p32 w33 => PutAll w33 p32 [.int .i64 (IntKind.i64.wrap x31), .bool false, .bool false, .bool false, .int .i64 0, .int .i64 0] (fun w34 => Does Try.prog 31 #[.pointer r28, .int .i64 4] w34 (fun v w36 => v = .tuple #[] ∧ Does Try.prog 32 #[.pointer r28, .int .i64 1] w36 (fun v w37 => ∃ (x38 : Int), v = .int .u64 x38 ∧ Put w37 (p32.add 1) (.bool (decide (x38 = 1))) (fun w39 => Does Try.prog 32 #[.pointer r28, .int .i64 1] w39 (fun v w41 => ∃ (x42 : Int), v = .int .u64 x42 ∧ Put w41 (p32.add 2) (.bool (decide (x42 = 1))) (fun w43 => Does Try.prog 32 #[.pointer r28, .int .i64 1] w43 (fun v w45 => ∃ (x46 : Int), v = .int .u64 x46 ∧ Put w45 (p32.add 3) (.bool (decide (x46 = 1))) (fun w47 => Does Try.prog 32 #[.pointer r28, .int .i64 2] w47 (fun v w49 => ∃ (x50 : Int), v = .int .u64 x50 ∧ Put w49 (p32.add 4) (.int .i64 (IntKind.i64.wrap x50)) (fun w51 => Does Try.prog 31 #[.pointer r28, .int .i64 1] w51 (fun v w53 => v = .tuple #[] ∧ Does Try.prog 32 #[.pointer r28, .int .i64 8] w53 (fun v w54 => ∃ (x55 : Int), v = .int .u64 x55 ∧ Put w54 (p32.add 5) (.int .i64 (IntKind.i64.wrap x55)) (fun w56 => ∃ (x58 : Int) (x59 x60 x61 : Bool) (x62 x63 : Int), Cells w56 p32 0 [.int .i64 x58, .bool x59, .bool x60, .bool x61, .int .i64 x62, .int .i64 x63] ∧ Does Try.prog 18 #[.agg #[.int .i64 x58, .bool x59, .bool x60, .bool x61, .int .i64 x62, .int .i64 x63]] w56 (fun v w65 => ∃ (r_a66 : Option Addr) (r_n67 r_c68 : Nat) (r69 : Int), v = .tuple #[.slice r_a66 r_n67 r_c68, .int .i64 r69] ∧ if r69 ≠ 0 then
      F34_j1 p5 p32 true w65 k
    else
      Does Try.prog 35 #[.slice r_a66 r_n67 r_c68, .slice b_a1 b_n2 b_c3] w65 (fun v w102 => ∃ (x103 : Bool), v = .bool x103 ∧ F34_j1 p5 p32 (!x103) w102 k))))))))))))))))))))
set_option maxRecDepth 100000 in
set_option maxHeartbeats 2000000 in
theorem w34 (b_a1 : Option Addr) (b_n2 : Nat) (b_c3 : Nat) (w4 : World) (k : Value → World → Prop) (h : F34 b_a1 b_n2 b_c3 w4 k) : Does Try.prog 34 #[.slice b_a1 b_n2 b_c3] w4 k := by
  refine enter 65 Try.func34 rfl rfl rfl ?_
  intro ρ hρ
  have e0 := hρ 0 _ rfl
  unfold F34 at h
  refine WC_seq ?_
  refine WC_region ?_
  have h := New.out h
  refine WL_val gd0 (o_alloc (z := .agg #[.int .i64 0, .bool false, .bool false, .bool false, .int .i64 0, .int .i64 0]) (cs := [.int .i64 0, .bool false, .bool false, .bool false, .int .i64 0, .int .i64 0]) Try.zeroValue24 rfl) rfl ?_
  generalize hp5 : fresh w4 = p5 at h ⊢
  generalize hw6 : push w4 24 [.int .i64 0, .bool false, .bool false, .bool false, .int .i64 0, .int .i64 0] = w6 at h ⊢
  try dsimp only at h
  refine WL_val gd0 ((o_assign (v := .int .i64 0) rfl) _) rfl ?_
  refine WL_nil ?_
  refine nrm ?_
  refine WC_seq ?_
  refine WC_block ?_
  refine WC_seq ?_
  refine WC_region ?_
  refine WL_val gd0 ((o_move (v := .slice b_a1 b_n2 b_c3) (by exact e0)) _) rfl ?_
  refine WL_val gd0 ((o_len Try.underlying22 rfl) _) rfl ?_
  refine WL_val gd0 ((o_lss rfl rfl) _) rfl ?_
  refine WL_val gd0 ((o_assign (v := .bool (decide ((b_n2 : Int) < 4))) rfl) _) rfl ?_
  refine WL_nil ?_
  refine nrm ?_
  refine WC_cond (t := (decide ((b_n2 : Int) < 4))) rfl (fun hb7 => ?_) (fun hb7 => ?_)
  · rw [if_pos (of_decide_eq_true hb7)] at h
    refine WC_seq ?_
    refine WC_region ?_
    refine WL_val gd0 ((o_build (ps := []) (v := .agg #[.int .i64 0, .bool false, .bool false, .bool false, .int .i64 0, .int .i64 0]) partNil (fun w => by kernel_rfl)) _) rfl ?_
    obtain ⟨c9, h⟩ := h
    refine WL_act gd0 (o_storeAgg (vs := [.int .i64 0, .bool false, .bool false, .bool false, .int .i64 0, .int .i64 0]) Try.sizeOf24 rfl rfl rfl c9) ?_
    generalize hw8 : setAll w6 p5 0 [.int .i64 0, .bool false, .bool false, .bool false, .int .i64 0, .int .i64 0] = w8 at h ⊢
    try dsimp only at h
    refine WL_val gd0 ((o_assign (v := .int .i64 3) rfl) _) rfl ?_
    refine WL_nil ?_
    refine nrm ?_
    refine WC_ret ?_
    refine rtB ?_
    refine rtT ?_
    refine rtE ?_
    obtain ⟨r10, r11, r12, r13, r14, r15, hc16, h⟩ := h
    exact gvC1 (vs := [.int .i64 r10, .bool r11, .bool r12, .bool r13, .int .i64 r14, .int .i64 r15]) rfl Try.isAgg24 Try.sizeOf24 rfl hc16 rfl h
  · rw [if_neg (of_decide_eq_false hb7)] at h
    refine WC_seq ?_
    refine WC_region ?_
    refine WL_val gd0 ((o_move (v := .slice b_a1 b_n2 b_c3) (by exact e0)) _) rfl ?_
    refine WL_val gd0 ((o_len Try.underlying22 rfl) _) rfl ?_
    refine WL_val gd0 ((o_gtr rfl rfl) _) rfl ?_
    refine WL_val gd0 ((o_assign (v := .bool (decide (4 < (b_n2 : Int)))) rfl) _) rfl ?_
    refine WL_nil ?_
    refine nrm ?_
    refine WC_cond (t := (decide (4 < (b_n2 : Int)))) rfl (fun hb17 => ?_) (fun hb17 => ?_)
    · rw [if_pos (of_decide_eq_true hb17)] at h
      refine WC_seq ?_
      refine WC_region ?_
      refine WL_val gd0 ((o_build (ps := []) (v := .agg #[.int .i64 0, .bool false, .bool false, .bool false, .int .i64 0, .int .i64 0]) partNil (fun w => by kernel_rfl)) _) rfl ?_
      obtain ⟨c19, h⟩ := h
      refine WL_act gd0 (o_storeAgg (vs := [.int .i64 0, .bool false, .bool false, .bool false, .int .i64 0, .int .i64 0]) Try.sizeOf24 rfl rfl rfl c19) ?_
      generalize hw18 : setAll w6 p5 0 [.int .i64 0, .bool false, .bool false, .bool false, .int .i64 0, .int .i64 0] = w18 at h ⊢
      try dsimp only at h
      refine WL_val gd0 ((o_assign (v := .int .i64 6) rfl) _) rfl ?_
      refine WL_nil ?_
      refine nrm ?_
      refine WC_ret ?_
      refine rtB ?_
      refine rtT ?_
      refine rtE ?_
      obtain ⟨r20, r21, r22, r23, r24, r25, hc26, h⟩ := h
      exact gvC1 (vs := [.int .i64 r20, .bool r21, .bool r22, .bool r23, .int .i64 r24, .int .i64 r25]) rfl Try.isAgg24 Try.sizeOf24 rfl hc26 rfl h
    · rw [if_neg (of_decide_eq_false hb17)] at h
      refine WC_skip ?_
      refine nrmB ?_
      refine nrm ?_
      refine WC_seq ?_
      refine WC_region ?_
      refine WL_val gd0 ((o_move (v := .slice b_a1 b_n2 b_c3) (by exact e0)) _) rfl ?_
      refine WL_call gd0 (o_call Try.call30 (argCons rfl argNil) _) rfl (h.mono ?_)
      rintro _ w27 ⟨r28, rfl, h⟩
      refine WL_val gd0 ((o_assign (v := .pointer r28) rfl) _) rfl ?_
      refine WL_nil ?_
      refine nrm ?_
      refine WC_seq ?_
      refine WC_region ?_
      refine WL_val gd0 ((o_move (v := .pointer r28) rfl) _) rfl ?_
      refine WL_call gd0 (o_call Try.call31 (argCons rfl (argCons rfl argNil)) _) rfl (h.mono ?_)
      rintro _ w29 ⟨rfl, h⟩
      refine WL_nil ?_
      refine nrm ?_
      refine WC_seq ?_
      refine WC_region ?_
      refine WL_val gd0 ((o_move (v := .pointer r28) rfl) _) rfl ?_
      refine WL_call gd0 (o_call Try.call32 (argCons rfl (argCons rfl argNil)) _) rfl (h.mono ?_)
      rintro _ w30 ⟨x31, rfl, h⟩
      refine WL_val gd0 ((o_conv Try.underlying41 Try.underlying3 rfl) _) rfl ?_
      refine WL_val gd0 ((o_build (ps := [(0, .int .i64 (IntKind.i64.wrap x31))]) (v := .agg #[.int .i64 (IntKind.i64.wrap x31), .bool false, .bool false, .bool false, .int .i64 0, .int .i64 0]) (partCons rfl partNil) (fun w => by kernel_rfl)) _) rfl ?_
      have h := New.out h
      refine WL_val gd0 (o_alloc (z := .agg #[.int .i64 0, .bool false, .bool false, .bool false, .int .i64 0, .int .i64 0]) (cs := [.int .i64 0, .bool false, .bool false, .bool false, .int .i64 0, .int .i64 0]) Try.zeroValue24 rfl) rfl ?_
      generalize hp32 : fresh w30 = p32 at h ⊢
      generalize hw33 : push w30 24 [.int .i64 0, .bool false, .bool false, .bool false, .int .i64 0, .int .i64 0] = w33 at h ⊢
      try dsimp only at h
      obtain ⟨c35, h⟩ := h
      refine WL_act gd0 (o_storeAgg (vs := [.int .i64 (IntKind.i64.wrap x31), .bool false, .bool false, .bool false, .int .i64 0, .int .i64 0]) Try.sizeOf24 rfl rfl rfl c35) ?_
      generalize hw34 : setAll w33 p32 0 [.int .i64 (IntKind.i64.wrap x31), .bool false, .bool false, .bool false, .int .i64 0, .int .i64 0] = w34 at h ⊢
      try dsimp only at h
      refine WL_nil ?_
      refine nrm ?_
      refine WC_seq ?_
      refine WC_region ?_
      refine WL_val gd0 ((o_move (v := .pointer r28) rfl) _) rfl ?_
      refine WL_call gd0 (o_call Try.call31 (argCons rfl (argCons rfl argNil)) _) rfl (h.mono ?_)
      rintro _ w36 ⟨rfl, h⟩
      refine WL_nil ?_
      refine nrm ?_
      refine WC_seq ?_
      refine WC_region ?_
      refine WL_val gd0 ((o_move (v := .pointer r28) rfl) _) rfl ?_
      refine WL_call gd0 (o_call Try.call32 (argCons rfl (argCons rfl argNil)) _) rfl (h.mono ?_)
      rintro _ w37 ⟨x38, rfl, h⟩
      refine WL_val gd0 ((o_eql rfl rfl) _) rfl ?_
      refine WL_val gd0 ((o_fieldAddr 1 Try.underlying24 rfl Try.sizeOf4 rfl rfl rfl) _) rfl ?_
      obtain ⟨c40, h⟩ := h
      refine WL_act gd0 (o_store (v := .bool (decide (x38 = 1))) Try.sizeOf4 rfl rfl rfl c40) ?_
      generalize hw39 : World.setCell w37 (p32.add 1) (.bool (decide (x38 = 1))) = w39 at h ⊢
      try dsimp only at h
      refine WL_nil ?_
      refine nrm ?_
      refine WC_seq ?_
      refine WC_region ?_
      refine WL_val gd0 ((o_move (v := .pointer r28) rfl) _) rfl ?_
      refine WL_call gd0 (o_call Try.call32 (argCons rfl (argCons rfl argNil)) _) rfl (h.mono ?_)
      rintro _ w41 ⟨x42, rfl, h⟩
      refine WL_val gd0 ((o_eql rfl rfl) _) rfl ?_
      refine WL_val gd0 ((o_fieldAddr 2 Try.underlying24 rfl Try.sizeOf4 rfl rfl rfl) _) rfl ?_
      obtain ⟨c44, h⟩ := h
      refine WL_act gd0 (o_store (v := .bool (decide (x42 = 1))) Try.sizeOf4 rfl rfl rfl c44) ?_
      generalize hw43 : World.setCell w41 (p32.add 2) (.bool (decide (x42 = 1))) = w43 at h ⊢
      try dsimp only at h
      refine WL_nil ?_
      refine nrm ?_
      refine WC_seq ?_
      refine WC_region ?_
      refine WL_val gd0 ((o_move (v := .pointer r28) rfl) _) rfl ?_
      refine WL_call gd0 (o_call Try.call32 (argCons rfl (argCons rfl argNil)) _) rfl (h.mono ?_)
      rintro _ w45 ⟨x46, rfl, h⟩
      refine WL_val gd0 ((o_eql rfl rfl) _) rfl ?_
      refine WL_val gd0 ((o_fieldAddr 3 Try.underlying24 rfl Try.sizeOf4 rfl rfl rfl) _) rfl ?_
      obtain ⟨c48, h⟩ := h
      refine WL_act gd0 (o_store (v := .bool (decide (x46 = 1))) Try.sizeOf4 rfl rfl rfl c48) ?_
      generalize hw47 : World.setCell w45 (p32.add 3) (.bool (decide (x46 = 1))) = w47 at h ⊢
      try dsimp only at h
      refine WL_nil ?_
      refine nrm ?_
      refine WC_seq ?_
      refine WC_region ?_
      refine WL_val gd0 ((o_move (v := .pointer r28) rfl) _) rfl ?_
      refine WL_call gd0 (o_call Try.call32 (argCons rfl (argCons rfl argNil)) _) rfl (h.mono ?_)
      rintro _ w49 ⟨x50, rfl, h⟩
      refine WL_val gd0 ((o_conv Try.underlying41 Try.underlying3 rfl) _) rfl ?_
      refine WL_val gd0 ((o_fieldAddr 4 Try.underlying24 rfl Try.sizeOf3 rfl rfl rfl) _) rfl ?_
      obtain ⟨c52, h⟩ := h
      refine WL_act gd0 (o_store (v := .int .i64 (IntKind.i64.wrap x50)) Try.sizeOf3 rfl rfl rfl c52) ?_
      generalize hw51 : World.setCell w49 (p32.add 4) (.int .i64 (IntKind.i64.wrap x50)) = w51 at h ⊢
      try dsimp only at h
      refine WL_nil ?_
      refine nrm ?_
      refine WC_seq ?_
      refine WC_region ?_
      refine WL_val gd0 ((o_move (v := .pointer r28) rfl) _) rfl ?_
      refine WL_call gd0 (o_call Try.call31 (argCons rfl (argCons rfl argNil)) _) rfl (h.mono ?_)
      rintro _ w53 ⟨rfl, h⟩
      refine WL_nil ?_
      refine nrm ?_
      refine WC_seq ?_
      refine WC_region ?_
      refine WL_val gd0 ((o_move (v := .pointer r28) rfl) _) rfl ?_
      refine WL_call gd0 (o_call Try.call32 (argCons rfl (argCons rfl argNil)) _) rfl (h.mono ?_)
      rintro _ w54 ⟨x55, rfl, h⟩
      refine WL_val gd0 ((o_conv Try.underlying41 Try.underlying3 rfl) _) rfl ?_
      refine WL_val gd0 ((o_fieldAddr 5 Try.underlying24 rfl Try.sizeOf3 rfl rfl rfl) _) rfl ?_
      obtain ⟨c57, h⟩ := h
      refine WL_act gd0 (o_store (v := .int .i64 (IntKind.i64.wrap x55)) Try.sizeOf3 rfl rfl rfl c57) ?_
      generalize hw56 : World.setCell w54 (p32.add 5) (.int .i64 (IntKind.i64.wrap x55)) = w56 at h ⊢
      try dsimp only at h
      refine WL_nil ?_
      refine nrm ?_
      refine WC_seq ?_
      refine WC_seq ?_
      refine WC_region ?_
      obtain ⟨x58, x59, x60, x61, x62, x63, hc64, h⟩ := h
      refine WL_val gd0 (o_loadAgg (vs := [.int .i64 x58, .bool x59, .bool x60, .bool x61, .int .i64 x62, .int .i64 x63]) Try.isAgg24 Try.sizeOf24 rfl hc64) rfl ?_
      refine WL_call gd0 (o_call Try.call18 (argCons rfl argNil) _) rfl (h.mono ?_)
      rintro _ w65 ⟨r_a66, r_n67, r_c68, r69, rfl, h⟩
      refine WL_val gd0 ((o_move (v := .tuple #[.slice r_a66 r_n67 r_c68, .int .i64 r69]) rfl) _) rfl ?_
      refine WL_val gd0 ((o_extract (vs := [.slice r_a66 r_n67 r_c68, .int .i64 r69]) (r := .slice r_a66 r_n67 r_c68) rfl rfl) _) rfl ?_
      refine WL_val gd0 ((o_extract (vs := [.slice r_a66 r_n67 r_c68, .int .i64 r69]) (r := .int .i64 r69) rfl rfl) _) rfl ?_
      refine WL_val gd0 ((o_assign (v := .slice r_a66 r_n67 r_c68) rfl) _) rfl ?_
      refine WL_val gd0 ((o_assign (v := .int .i64 r69) rfl) _) rfl ?_
      refine WL_nil ?_
      refine nrm ?_
      refine WC_cut (fun ρ w' => ∃ (t73 : Bool), ρ 62 = .bool t73 ∧ ρ 2 = .pointer (some p5) ∧ ρ 5 = .pointer (some p32) ∧ F34_j1 p5 p32 t73 w' k) ?_ ?_
      · refine WC_region ?_
        refine WL_val gd0 ((o_move (v := .int .i64 r69) rfl) _) rfl ?_
        refine WL_val gd0 ((o_neq rfl rfl) _) rfl ?_
        refine WL_val gd0 ((o_move (v := .bool (decide (r69 ≠ 0))) rfl) _) rfl ?_
        refine bsplit (decide (r69 ≠ 0)) (fun hb101 => ?_) (fun hb101 => ?_)
        · rw [if_pos (of_decide_eq_true hb101)] at h
          refine WL_skip (gdN (b := (decide (r69 ≠ 0))) 57 rfl rfl hb101) rfl ?_
          refine WL_skip (gdN (b := (decide (r69 ≠ 0))) 57 rfl rfl hb101) rfl ?_
          refine WL_skip (gdN (b := (decide (r69 ≠ 0))) 57 rfl rfl hb101) rfl ?_
          refine WL_skip (gdN (b := (decide (r69 ≠ 0))) 57 rfl rfl hb101) rfl ?_
          refine WL_val gd0 ((o_pickT (v := .bool true) rfl hb101 rfl) _) rfl ?_
          refine WL_nil ?_
          refine nrm ?_
          exact ⟨_, rfl, rfl, rfl, h⟩
        · rw [if_neg (of_decide_eq_false hb101)] at h
          refine WL_val (gdY (b := (decide (r69 ≠ 0))) 57 rfl rfl hb101) ((o_move (v := .slice r_a66 r_n67 r_c68) rfl) _) rfl ?_
          refine WL_val (gdY (b := (decide (r69 ≠ 0))) 57 rfl rfl hb101) ((o_move (v := .slice b_a1 b_n2 b_c3) (by exact e0)) _) rfl ?_
          refine WL_call (gdY (b := (decide (r69 ≠ 0))) 57 rfl rfl hb101) (o_call Try.call35 (argCons rfl (argCons rfl argNil)) _) rfl (h.mono ?_)
          rintro _ w102 ⟨x103, rfl, h⟩
          refine WL_val (gdY (b := (decide (r69 ≠ 0))) 57 rfl rfl hb101) ((o_not rfl) _) rfl ?_
          refine WL_val gd0 ((o_pickF (v := .bool (!x103)) rfl hb101 rfl) _) rfl ?_
          refine WL_nil ?_
          refine nrm ?_
          exact ⟨_, rfl, rfl, rfl, h⟩
      · rintro ρ w74 ⟨t73, e62_72, e2_70, e5_71, h⟩
        unfold F34_j1 at h
        refine WC_cond (t := t73) (by exact e62_72) (fun hb75 => ?_) (fun hb75 => ?_)
        · rw [if_pos hb75] at h
          refine WC_seq ?_
          refine WC_region ?_
          refine WL_val gd0 ((o_build (ps := []) (v := .agg #[.int .i64 0, .bool false, .bool false, .bool false, .int .i64 0, .int .i64 0]) partNil (fun w => by kernel_rfl)) _) rfl ?_
          obtain ⟨c77, h⟩ := h
          refine WL_act gd0 (o_storeAgg (vs := [.int .i64 0, .bool false, .bool false, .bool false, .int .i64 0, .int .i64 0]) Try.sizeOf24 (by exact e2_70) rfl rfl c77) ?_
          generalize hw76 : setAll w74 p5 0 [.int .i64 0, .bool false, .bool false, .bool false, .int .i64 0, .int .i64 0] = w76 at h ⊢
          try dsimp only at h
          refine WL_val gd0 ((o_assign (v := .int .i64 4) rfl) _) rfl ?_
          refine WL_nil ?_
          refine nrm ?_
          refine WC_ret ?_
          refine rtT ?_
          refine rtE ?_
          obtain ⟨r78, r79, r80, r81, r82, r83, hc84, h⟩ := h
          exact gvC1 (vs := [.int .i64 r78, .bool r79, .bool r80, .bool r81, .int .i64 r82, .int .i64 r83]) rfl Try.isAgg24 Try.sizeOf24 (by exact e2_70) hc84 rfl h
        · rw [if_neg (neT hb75)] at h
          refine WC_skip ?_
          refine nrm ?_
          refine WC_seq ?_
          refine WC_region ?_
          obtain ⟨x85, x86, x87, x88, x89, x90, hc91, h⟩ := h
          refine WL_val gd0 (o_loadAgg (vs := [.int .i64 x85, .bool x86, .bool x87, .bool x88, .int .i64 x89, .int .i64 x90]) Try.isAgg24 Try.sizeOf24 (by exact e5_71) hc91) rfl ?_
          obtain ⟨c93, h⟩ := h
          refine WL_act gd0 (o_storeAgg (vs := [.int .i64 x85, .bool x86, .bool x87, .bool x88, .int .i64 x89, .int .i64 x90]) Try.sizeOf24 (by exact e2_70) rfl rfl c93) ?_
          generalize hw92 : setAll w74 p5 0 [.int .i64 x85, .bool x86, .bool x87, .bool x88, .int .i64 x89, .int .i64 x90] = w92 at h ⊢
          try dsimp only at h
          refine WL_val gd0 ((o_assign (v := .int .i64 0) rfl) _) rfl ?_
          refine WL_nil ?_
          refine nrm ?_
          refine WC_ret ?_
          refine rtE ?_
          obtain ⟨r94, r95, r96, r97, r98, r99, hc100, h⟩ := h
          exact gvC1 (vs := [.int .i64 r94, .bool r95, .bool r96, .bool r97, .int .i64 r98, .int .i64 r99]) rfl Try.isAgg24 Try.sizeOf24 (by exact e2_70) hc100 rfl h

/-- bytes.Equal -/
def F35 (a_a1 : Option Addr) (a_n2 : Nat) (a_c3 : Nat) (b_a4 : Option Addr) (b_n5 : Nat) (b_c6 : Nat) (w7 : World) (k : Value → World → Prop) : Prop :=
  ∃ (s8 : ByteArray), (Conv.bytesToString (.slice a_a1 a_n2 a_c3)).run Try.prog w7 = .ok (.string s8) w7 ∧ ∃ (s10 : ByteArray), (Conv.bytesToString (.slice b_a4 b_n5 b_c6)).run Try.prog w7 = .ok (.string s10) w7 ∧ k (.bool (s8.toList == s10.toList)) w7
set_option maxRecDepth 100000 in
set_option maxHeartbeats 2000000 in
theorem w35 (a_a1 : Option Addr) (a_n2 : Nat) (a_c3 : Nat) (b_a4 : Option Addr) (b_n5 : Nat) (b_c6 : Nat) (w7 : World) (k : Value → World → Prop) (h : F35 a_a1 a_n2 a_c3 b_a4 b_n5 b_c6 w7 k) : Does Try.prog 35 #[.slice a_a1 a_n2 a_c3, .slice b_a4 b_n5 b_c6] w7 k := by
  refine enter 10 Try.func35 rfl rfl rfl ?_
  intro ρ hρ
  have e0 := hρ 0 _ rfl
  have e1 := hρ 1 _ rfl
  unfold F35 at h
  refine WC_seq ?_
  refine WC_region ?_
  refine WL_val gd0 ((o_assign (v := .bool false) rfl) _) rfl ?_
  refine WL_nil ?_
  refine nrm ?_
  refine WC_seq ?_
  refine WC_region ?_
  refine WL_val gd0 ((o_move (v := .slice a_a1 a_n2 a_c3) (by exact e0)) _) rfl ?_
  obtain ⟨s8, r9, h⟩ := h
  refine WL_val gd0 (o_toStr Try.underlying22 Try.underlying5 Try.underlying9 rfl r9) rfl ?_
  refine WL_val gd0 ((o_move (v := .slice b_a4 b_n5 b_c6) (by exact e1)) _) rfl ?_
  obtain ⟨s10, r11, h⟩ := h
  refine WL_val gd0 (o_toStr Try.underlying22 Try.underlying5 Try.underlying9 rfl r11) rfl ?_
  refine WL_val gd0 ((o_eqlStr rfl rfl) _) rfl ?_
  refine WL_val gd0 ((o_assign (v := .bool (s8.toList == s10.toList)) rfl) _) rfl ?_
  refine WL_nil ?_
  refine nrm ?_
  refine WC_ret ?_
  refine rtE ?_
  exact gv1 rfl rfl h

def F36_j1 (r1 : Option Addr) (width2 : Int) (w6 : World) (k : Value → World → Prop) : Prop :=
  ∃ (p7 : Addr), r1 = some p7 ∧ ∃ (x9 : Bool), w6.cell? (p7.add 2) = some (.bool x9) ∧ if (!x9) = true then
  ∃ (x12 : Int), w6.cell? (p7.add 1) = some (.int .i64 x12) ∧ Put w6 (p7.add 1) (.int .i64 (IntKind.i64.wrap (x12 + width2))) (fun w14 => k (.tuple #[]) w14)
else
  k (.tuple #[]) w6
def F36_j2 (r1 : Option Addr) (width2 : Int) (t19 : Bool) (w20 : World) (k : Value → World → Prop) : Prop :=
  if t19 = true then
  ∃ (p22 : Addr), r1 = some p22 ∧ Put w20 (p22.add 2) (.bool true) (fun w24 => F36_j1 r1 width2 w24 k)
else
  F36_j1 r1 width2 w20 k
/-- (*spacecraft spacecraftref02.Reader).Skip -/
def F36 (r1 : Option Addr) (width2 : Int) (w3 : World) (k : Value → World → Prop) : Prop :=
  if width2 < 0 then
  F36_j2 r1 width2 true w3 k
else
  Does Try.prog 48 #[.pointer r1] w3 (fun v w27 => ∃ (x28 : Int), v = .int .i64 x28 ∧ F36_j2 r1 width2 (decide (x28 < width2)) w27 k)
set_option maxRecDepth 100000 in
set_option maxHeartbeats 2000000 in
theorem w36 (r1 : Option Addr) (width2 : Int) (w3 : World) (k : Value → World → Prop) (h : F36 r1 width2 w3 k) : Does Try.prog 36 #[.pointer r1, .int .i64 width2] w3 k := by
  refine enter 29 Try.func36 rfl rfl rfl ?_
  intro ρ hρ
  have e0 := hρ 0 _ rfl
  have e1 := hρ 1 _ rfl
  unfold F36 at h
  refine WC_cut (fun ρ w' => ρ 0 = .pointer r1 ∧ ρ 1 = .int .i64 width2 ∧ F36_j1 r1 width2 w' k) ?_ ?_
  · refine WC_cut (fun ρ w' => ∃ (t19 : Bool), ρ 11 = .bool t19 ∧ ρ 0 = .pointer r1 ∧ ρ 1 = .int .i64 width2 ∧ F36_j2 r1 width2 t19 w' k) ?_ ?_
    · refine WC_region ?_
      refine WL_val gd0 ((o_move (v := .int .i64 width2) (by exact e1)) _) rfl ?_
      refine WL_val gd0 ((o_lss rfl rfl) _) rfl ?_
      refine WL_val gd0 ((o_move (v := .bool (decide (width2 < 0))) rfl) _) rfl ?_
      refine bsplit (decide (width2 < 0)) (fun hb26 => ?_) (fun hb26 => ?_)
      · rw [if_pos (of_decide_eq_true hb26)] at h
        refine WL_skip (gdN (b := (decide (width2 < 0))) 6 rfl rfl hb26) rfl ?_
        refine WL_skip (gdN (b := (decide (width2 < 0))) 6 rfl rfl hb26) rfl ?_
        refine WL_skip (gdN (b := (decide (width2 < 0))) 6 rfl rfl hb26) rfl ?_
        refine WL_skip (gdN (b := (decide (width2 < 0))) 6 rfl rfl hb26) rfl ?_
        refine WL_val gd0 ((o_pickT (v := .bool true) rfl hb26 rfl) _) rfl ?_
        refine WL_nil ?_
        refine nrm ?_
        exact ⟨_, rfl, e0, e1, h⟩
      · rw [if_neg (of_decide_eq_false hb26)] at h
        refine WL_val (gdY (b := (decide (width2 < 0))) 6 rfl rfl hb26) ((o_move (v := .int .i64 width2) (by exact e1)) _) rfl ?_
        refine WL_val (gdY (b := (decide (width2 < 0))) 6 rfl rfl hb26) ((o_move (v := .pointer r1) (by exact e0)) _) rfl ?_
        refine WL_call (gdY (b := (decide (width2 < 0))) 6 rfl rfl hb26) (o_call Try.call48 (argCons rfl argNil) _) rfl (h.mono ?_)
        rintro _ w27 ⟨x28, rfl, h⟩
        refine WL_val (gdY (b := (decide (width2 < 0))) 6 rfl rfl hb26) ((o_gtr rfl rfl) _) rfl ?_
        refine WL_val gd0 ((o_pickF (v := .bool (decide (x28 < width2))) rfl hb26 rfl) _) rfl ?_
        refine WL_nil ?_
        refine nrm ?_
        exact ⟨_, rfl, e0, e1, h⟩
    · rintro ρ w20 ⟨t19, e11_18, e0_16, e1_17, h⟩
      unfold F36_j2 at h
      refine WC_cond (t := t19) (by exact e11_18) (fun hb21 => ?_) (fun hb21 => ?_)
      · rw [if_pos hb21] at h
        refine WC_region ?_
        refine WL_val gd0 ((o_move (v := .pointer r1) (by exact e0_16)) _) rfl ?_
        obtain ⟨p22, q23, h⟩ := h
        refine WL_val gd0 ((o_nilCheck (by exact (congrArg Value.pointer q23))) _) rfl ?_
        refine WL_val gd0 ((o_fieldAddr 2 Try.underlying62 rfl Try.sizeOf4 rfl rfl rfl) _) rfl ?_
        obtain ⟨c25, h⟩ := h
        refine WL_act gd0 (o_store (v := .bool true) Try.sizeOf4 rfl rfl rfl c25) ?_
        generalize hw24 : World.setCell w20 (p22.add 2) (.bool true) = w24 at h ⊢
        try dsimp only at h
        refine WL_nil ?_
        refine nrm ?_
        exact ⟨e0_16, e1_17, h⟩
      · rw [if_neg (neT hb21)] at h
        refine WC_skip ?_
        refine nrm ?_
        exact ⟨e0_16, e1_17, h⟩
  · rintro ρ w6 ⟨e0_4, e1_5, h⟩
    unfold F36_j1 at h
    refine WC_seq ?_
    refine WC_region ?_
    refine WL_val gd0 ((o_move (v := .pointer r1) (by exact e0_4)) _) rfl ?_
    obtain ⟨p7, q8, h⟩ := h
    refine WL_val gd0 ((o_nilCheck (by exact (congrArg Value.pointer q8))) _) rfl ?_
    refine WL_val gd0 ((o_fieldAddr 2 Try.underlying62 rfl Try.sizeOf4 rfl rfl rfl) _) rfl ?_
    obtain ⟨x9, hc10, h⟩ := h
    refine WL_val gd0 (o_load Try.isAgg4 rfl hc10) rfl ?_
    refine WL_val gd0 ((o_not rfl) _) rfl ?_
    refine WL_nil ?_
    refine nrm ?_
    refine WC_cond (t := (!x9)) rfl (fun hb11 => ?_) (fun hb11 => ?_)
    · rw [if_pos hb11] at h
      refine WC_region ?_
      refine WL_val gd0 ((o_move (v := .pointer r1) (by exact e0_4)) _) rfl ?_
      refine WL_val gd0 ((o_move (v := .pointer r1) (by exact e0_4)) _) rfl ?_
      refine WL_val gd0 ((o_nilCheck (by exact (congrArg Value.pointer q8))) _) rfl ?_
      refine WL_val gd0 ((o_fieldAddr 1 Try.underlying62 rfl Try.sizeOf3 rfl rfl rfl) _) rfl ?_
      obtain ⟨x12, hc13, h⟩ := h
      refine WL_val gd0 (o_load Try.isAgg3 rfl hc13) rfl ?_
      refine WL_val gd0 ((o_move (v := .int .i64 width2) (by exact e1_5)) _) rfl ?_
      refine WL_val gd0 ((o_add rfl rfl) _) rfl ?_
      refine WL_val gd0 ((o_nilCheck (by exact (congrArg Value.pointer q8))) _) rfl ?_
      refine WL_val gd0 ((o_fieldAddr 1 Try.underlying62 rfl Try.sizeOf3 rfl rfl rfl) _) rfl ?_
      obtain ⟨c15, h⟩ := h
      refine WL_act gd0 (o_store (v := .int .i64 (IntKind.i64.wrap (x12 + width2))) Try.sizeOf3 rfl rfl rfl c15) ?_
      generalize hw14 : World.setCell w6 (p7.add 1) (.int .i64 (IntKind.i64.wrap (x12 + width2))) = w14 at h ⊢
      try dsimp only at h
      refine WL_nil ?_
      refine ndE ?_
      exact gv0 rfl h
    · rw [if_neg (neT hb11)] at h
      refine WC_skip ?_
      refine ndE ?_
      exact gv0 rfl h

def F37_b2 (width2 : Int) (p7 : Addr) (n15 : Int) (i17 : Int) (w18 : World) (nx18 : Int → Int → World → Prop) (k : Value → World → Prop) : Prop :=
  if i17 < width2 then
  ∃ (x_a21 : Option Addr) (x_n22 x_c23 : Nat), w18.drew.cell? p7 = some (.slice x_a21 x_n22 x_c23) ∧ ∃ (x25 : Int), w18.drew.cell? (p7.add 1) = some (.int .i64 x25) ∧ ∃ (p29 : Addr), x_a21 = some p29 ∧ (0 : Int) ≤ IntKind.i64.wrap (Int.tdiv x25 8) ∧ IntKind.i64.wrap (Int.tdiv x25 8) < (x_n22 : Int) ∧ ∃ (x31 : Int), w18.drew.cell? (p29.add ((IntKind.i64.wrap (Int.tdiv x25 8)).toNat)) = some (.int .u8 x31) ∧ ∃ (x33 : Int), w18.drew.cell? (p7.add 1) = some (.int .i64 x33) ∧ (0 : Int) ≤ IntKind.u64.wrap (IntKind.i64.wrap (7 - (Int.tmod x33 8))) ∧ ∃ (x36 : Int), w18.drew.cell? (p7.add 1) = some (.int .i64 x36) ∧ Put w18.drew (p7.add 1) (.int .i64 (IntKind.i64.wrap (x36 + 1))) (fun w38 => nx18 (IntKind.u64.wrap ((IntKind.u64.wrap (2 * n15)) + (IntKind.u64.wrap (Int.tmod (shr .u8 x31 (IntKind.u64.wrap (IntKind.i64.wrap (7 - (Int.tmod x33 8))))) 2)))) (IntKind.i64.wrap (i17 + 1)) w38)
else
  k (.int .u64 n15) w18
def F37_j1 (r1 : Option Addr) (width2 : Int) (w6 : World) (k : Value → World → Prop) : Prop :=
  ∃ (p7 : Addr), r1 = some p7 ∧ ∃ (x9 : Bool), w6.cell? (p7.add 2) = some (.bool x9) ∧ if x9 = true then
  k (.int .u64 0) w6
else
  LoopP (fun (s : Int × Int) w' nx' => F37_b2 width2 p7 (s.1) (s.2) w' (fun x0 x1 w => nx' (x0, x1) w) k) (0, 0) w6
def F37_j3 (r1 : Option Addr) (width2 : Int) (t43 : Bool) (w44 : World) (k : Value → World → Prop) : Prop :=
  if t43 = true then
  ∃ (p46 : Addr), r1 = some p46 ∧ Put w44 (p46.add 2) (.bool true) (fun w48 => F37_j1 r1 width2 w48 k)
else
  F37_j1 r1 width2 w44 k
/-- (*spacecraft spacecraftref02.Reader).Get -/
def F37 (r1 : Option Addr) (width2 : Int) (w3 : World) (k : Value → World → Prop) : Prop :=
  if width2 < 0 then
  F37_j3 r1 width2 true w3 k
else
  if 64 < width2 then
    F37_j3 r1 width2 true w3 k
  else
    Does Try.prog 48 #[.pointer r1] w3 (fun v w52 => ∃ (x53 : Int), v = .int .i64 x53 ∧ F37_j3 r1 width2 (decide (x53 < width2)) w52 k)
set_option maxRecDepth 100000 in
set_option maxHeartbeats 2000000 in
theorem w37 (r1 : Option Addr) (width2 : Int) (w3 : World) (k : Value → World → Prop) (h : F37 r1 width2 w3 k) : Does Try.prog 37 #[.pointer r1, .int .i64 width2] w3 k := by
  refine enter 66 Try.func37 rfl rfl rfl ?_
  intro ρ hρ
  have e0 := hρ 0 _ rfl
  have e1 := hρ 1 _ rfl
  unfold F37 at h
  refine WC_seq ?_
  refine WC_region ?_
  refine WL_val gd0 ((o_assign (v := .int .u64 0) rfl) _) rfl ?_
  refine WL_nil ?_
  refine nrm ?_
  refine WC_cut (fun ρ w' => ρ 0 = .pointer r1 ∧ ρ 1 = .int .i64 width2 ∧ F37_j1 r1 width2 w' k) ?_ ?_
  · refine WC_cut (fun ρ w' => ∃ (t43 : Bool), ρ 19 = .bool t43 ∧ ρ 0 = .pointer r1 ∧ ρ 1 = .int .i64 width2 ∧ F37_j3 r1 width2 t43 w' k) ?_ ?_
    · refine WC_region ?_
      refine WL_val gd0 ((o_move (v := .int .i64 width2) (by exact e1)) _) rfl ?_
      refine WL_val gd0 ((o_lss rfl rfl) _) rfl ?_
      refine WL_val gd0 ((o_move (v := .bool (decide (width2 < 0))) rfl) _) rfl ?_
      refine bsplit (decide (width2 < 0)) (fun hb50 => ?_) (fun hb50 => ?_)
      · rw [if_pos (of_decide_eq_true hb50)] at h
        refine WL_skip (gdN (b := (decide (width2 < 0))) 10 rfl rfl hb50) rfl ?_
        refine WL_skip (gdN (b := (decide (width2 < 0))) 10 rfl rfl hb50) rfl ?_
        refine WL_val gd0 ((o_pickT (v := .bool true) rfl hb50 rfl) _) rfl ?_
        refine WL_val gd0 ((o_move (v := .bool true) rfl) _) rfl ?_
        refine WL_skip (gdN (b := true) 14 rfl rfl rfl) rfl ?_
        refine WL_skip (gdN (b := true) 14 rfl rfl rfl) rfl ?_
        refine WL_skip (gdN (b := true) 14 rfl rfl rfl) rfl ?_
        refine WL_skip (gdN (b := true) 14 rfl rfl rfl) rfl ?_
        refine WL_val gd0 ((o_pickT (v := .bool true) rfl rfl rfl) _) rfl ?_
        refine WL_nil ?_
        refine nrm ?_
        exact ⟨_, rfl, e0, e1, h⟩
      · rw [if_neg (of_decide_eq_false hb50)] at h
        refine WL_val (gdY (b := (decide (width2 < 0))) 10 rfl rfl hb50) ((o_move (v := .int .i64 width2) (by exact e1)) _) rfl ?_
        refine WL_val (gdY (b := (decide (width2 < 0))) 10 rfl rfl hb50) ((o_gtr rfl rfl) _) rfl ?_
        refine WL_val gd0 ((o_pickF (v := .bool (decide (64 < width2))) rfl hb50 rfl) _) rfl ?_
        refine WL_val gd0 ((o_move (v := .bool (decide (64 < width2))) rfl) _) rfl ?_
        refine bsplit (decide (64 < width2)) (fun hb51 => ?_) (fun hb51 => ?_)
        · rw [if_pos (of_decide_eq_true hb51)] at h
          refine WL_skip (gdN (b := (decide (64 < width2))) 14 rfl rfl hb51) rfl ?_
          refine WL_skip (gdN (b := (decide (64 < width2))) 14 rfl rfl hb51) rfl ?_
          refine WL_skip (gdN (b := (decide (64 < width2))) 14 rfl rfl hb51) rfl ?_
          refine WL_skip (gdN (b := (decide (64 < width2))) 14 rfl rfl hb51) rfl ?_
          refine WL_val gd0 ((o_pickT (v := .bool true) rfl hb51 rfl) _) rfl ?_
          refine WL_nil ?_
          refine nrm ?_
          exact ⟨_, rfl, e0, e1, h⟩
        · rw [if_neg (of_decide_eq_false hb51)] at h
          refine WL_val (gdY (b := (decide (64 < width2))) 14 rfl rfl hb51) ((o_move (v := .int .i64 width2) (by exact e1)) _) rfl ?_
          refine WL_val (gdY (b := (decide (64 < width2))) 14 rfl rfl hb51) ((o_move (v := .pointer r1) (by exact e0)) _) rfl ?_
          refine WL_call (gdY (b := (decide (64 < width2))) 14 rfl rfl hb51) (o_call Try.call48 (argCons rfl argNil) _) rfl (h.mono ?_)
          rintro _ w52 ⟨x53, rfl, h⟩
          refine WL_val (gdY (b := (decide (64 < width2))) 14 rfl rfl hb51) ((o_gtr rfl rfl) _) rfl ?_
          refine WL_val gd0 ((o_pickF (v := .bool (decide (x53 < width2))) rfl hb51 rfl) _) rfl ?_
          refine WL_nil ?_
          refine nrm ?_
          exact ⟨_, rfl, e0, e1, h⟩
    · rintro ρ w44 ⟨t43, e19_42, e0_40, e1_41, h⟩
      unfold F37_j3 at h
      refine WC_cond (t := t43) (by exact e19_42) (fun hb45 => ?_) (fun hb45 => ?_)
      · rw [if_pos hb45] at h
        refine WC_region ?_
        refine WL_val gd0 ((o_move (v := .pointer r1) (by exact e0_40)) _) rfl ?_
        obtain ⟨p46, q47, h⟩ := h
        refine WL_val gd0 ((o_nilCheck (by exact (congrArg Value.pointer q47))) _) rfl ?_
        refine WL_val gd0 ((o_fieldAddr 2 Try.underlying62 rfl Try.sizeOf4 rfl rfl rfl) _) rfl ?_
        obtain ⟨c49, h⟩ := h
        refine WL_act gd0 (o_store (v := .bool true) Try.sizeOf4 rfl rfl rfl c49) ?_
        generalize hw48 : World.setCell w44 (p46.add 2) (.bool true) = w48 at h ⊢
        try dsimp only at h
        refine WL_nil ?_
        refine nrm ?_
        exact ⟨e0_40, e1_41, h⟩
      · rw [if_neg (neT hb45)] at h
        refine WC_skip ?_
        refine nrm ?_
        exact ⟨e0_40, e1_41, h⟩
  · rintro ρ w6 ⟨e0_4, e1_5, h⟩
    unfold F37_j1 at h
    refine WC_seq ?_
    refine WC_seq ?_
    refine WC_region ?_
    refine WL_val gd0 ((o_move (v := .pointer r1) (by exact e0_4)) _) rfl ?_
    obtain ⟨p7, q8, h⟩ := h
    refine WL_val gd0 ((o_nilCheck (by exact (congrArg Value.pointer q8))) _) rfl ?_
    refine WL_val gd0 ((o_fieldAddr 2 Try.underlying62 rfl Try.sizeOf4 rfl rfl rfl) _) rfl ?_
    obtain ⟨x9, hc10, h⟩ := h
    refine WL_val gd0 (o_load Try.isAgg4 rfl hc10) rfl ?_
    refine WL_nil ?_
    refine nrm ?_
    refine WC_cond (t := x9) rfl (fun hb11 => ?_) (fun hb11 => ?_)
    · rw [if_pos hb11] at h
      refine WC_seq ?_
      refine WC_region ?_
      refine WL_val gd0 ((o_assign (v := .int .u64 0) rfl) _) rfl ?_
      refine WL_nil ?_
      refine nrm ?_
      refine WC_ret ?_
      refine rtT ?_
      refine rtE ?_
      exact gv1 rfl rfl h
    · rw [if_neg (neT hb11)] at h
      refine WC_skip ?_
      refine nrm ?_
      refine WC_seq ?_
      refine WC_region ?_
      refine WL_val gd0 ((o_assign (v := .int .u64 0) rfl) _) rfl ?_
      refine WL_nil ?_
      refine nrm ?_
      refine WC_seq ?_
      refine WC_seq ?_
      refine WC_region ?_
      refine WL_val gd0 ((o_assign (v := .int .i64 0) rfl) _) rfl ?_
      refine WL_nil ?_
      refine nrm ?_
      refine WC_block ?_
      obtain ⟨J18, ⟨n18, h0⟩, hr18⟩ := h
      refine WC_loop (fun n ρ w' => ∃ (n15 i17 : Int), ρ 5 = .int .u64 n15 ∧ ρ 6 = .int .i64 i17 ∧ ρ 0 = .pointer r1 ∧ ρ 1 = .int .i64 width2 ∧ J18 n (n15, i17) w') ⟨n18, _, _, rfl, rfl, e0_4, e1_5, h0⟩ ?_
      rintro n18 ρ w18 ⟨n15, i17, e5_14, e6_16, e0_12, e1_13, h⟩
      have h : F37_b2 width2 p7 n15 i17 w18 (fun x0 x1 w => ∃ m, m < n18 ∧ J18 m (x0, x1) w) k := hr18 n18 (n15, i17) w18 h
      unfold F37_b2 at h
      refine WC_seq ?_
      refine WC_seq ?_
      refine WC_region ?_
      refine WL_val gd0 ((o_move (v := .int .i64 i17) (by exact e6_16)) _) rfl ?_
      refine WL_val gd0 ((o_move (v := .int .i64 width2) (by exact e1_13)) _) rfl ?_
      refine WL_val gd0 ((o_lss rfl rfl) _) rfl ?_
      refine WL_nil ?_
      refine nrm ?_
      refine WC_cond (t := (decide (i17 < width2))) rfl (fun hb20 => ?_) (fun hb20 => ?_)
      · rw [if_pos (of_decide_eq_true hb20)] at h
        refine WC_skip ?_
        refine nrm ?_
        refine WC_seq ?_
        refine WC_block ?_
        refine WC_seq ?_
        refine WC_draws [] (.look 0 (.look 1 (.look 2 (.look 3 (.look 4 (.look 5 (.look 6 (.look 7 (.look 8 (.look 9 (.look 10 (.look 11 (.look 12 (.look 13 (.look 14 (.look 15 (.look 16 (.look 17 (.look 18 (.look 19 (.look 20 .nil))))))))))))))))))))) Try.mixed (by kernel_rfl) ?_
        refine WQ_val rfl gd0 (o_move (v := .pointer r1) (by exact e0_12)) rfl ?_
        refine WQ_val rfl gd0 (o_nilCheck (by exact (congrArg Value.pointer q8))) rfl ?_
        refine WQ_val rfl gd0 (o_fieldAddr0 Try.underlying62 rfl Try.sizeOf22 rfl rfl rfl) rfl ?_
        obtain ⟨x_a21, x_n22, x_c23, hc24, h⟩ := h
        refine WQ_look (fun w => w.cell? p7 = some (.slice x_a21 x_n22 x_c23)) rfl gd0 (fun w hc => (o_load Try.isAgg22 rfl hc)) hc24 rfl ?_
        refine WQ_val rfl gd0 (o_move (v := .pointer r1) (by exact e0_12)) rfl ?_
        refine WQ_val rfl gd0 (o_nilCheck (by exact (congrArg Value.pointer q8))) rfl ?_
        refine WQ_val rfl gd0 (o_fieldAddr 1 Try.underlying62 rfl Try.sizeOf3 rfl rfl rfl) rfl ?_
        obtain ⟨x25, hc26, h⟩ := h
        refine WQ_look (fun w => w.cell? (p7.add 1) = some (.int .i64 x25)) rfl gd0 (fun w hc => (o_load Try.isAgg3 rfl hc)) hc26 rfl ?_
        refine WQ_val rfl gd0 (fun w => o_quo rfl rfl w (by decide)) rfl ?_
        obtain ⟨p29, q30, h⟩ := h
        obtain ⟨l27, u28, h⟩ := h
        refine WQ_val rfl gd0 (o_indexAddr1 Try.underlying22 Try.sizeOf5 (by exact (congrArg (fun z => Value.slice z x_n22 x_c23) q30)) rfl l27 u28) rfl ?_
        obtain ⟨x31, hc32, h⟩ := h
        refine WQ_look (fun w => w.cell? (p29.add ((IntKind.i64.wrap (Int.tdiv x25 8)).toNat)) = some (.int .u8 x31)) rfl gd0 (fun w hc => (o_load Try.isAgg5 rfl hc)) hc32 rfl ?_
        refine WQ_val rfl gd0 (o_move (v := .pointer r1) (by exact e0_12)) rfl ?_
        refine WQ_val rfl gd0 (o_nilCheck (by exact (congrArg Value.pointer q8))) rfl ?_
        refine WQ_val rfl gd0 (o_fieldAddr 1 Try.underlying62 rfl Try.sizeOf3 rfl rfl rfl) rfl ?_
        obtain ⟨x33, hc34, h⟩ := h
        refine WQ_look (fun w => w.cell? (p7.add 1) = some (.int .i64 x33)) rfl gd0 (fun w hc => (o_load Try.isAgg3 rfl hc)) hc34 rfl ?_
        refine WQ_val rfl gd0 (fun w => o_rem rfl rfl w (by decide)) rfl ?_
        refine WQ_val rfl gd0 (o_sub rfl rfl) rfl ?_
        refine WQ_val rfl gd0 (o_conv Try.underlying3 Try.underlying36 rfl) rfl ?_
        obtain ⟨c35, h⟩ := h
        refine WQ_val rfl gd0 (o_shr rfl rfl c35) rfl ?_
        refine WQ_val rfl gd0 (fun w => o_rem rfl rfl w (by decide)) rfl ?_
        refine WQ_val rfl gd0 (o_assign (v := .int .u8 (Int.tmod (shr .u8 x31 (IntKind.u64.wrap (IntKind.i64.wrap (7 - (Int.tmod x33 8))))) 2)) rfl) rfl ?_
        refine WQ_nil ?_
        refine nrm ?_
        refine WC_seq ?_
        refine WC_region ?_
        refine WL_val gd0 ((o_move (v := .int .u64 n15) (by exact e5_14)) _) rfl ?_
        refine WL_val gd0 ((o_mul rfl rfl) _) rfl ?_
        refine WL_val gd0 ((o_move (v := .int .u8 (Int.tmod (shr .u8 x31 (IntKind.u64.wrap (IntKind.i64.wrap (7 - (Int.tmod x33 8))))) 2)) rfl) _) rfl ?_
        refine WL_val gd0 ((o_conv Try.underlying5 Try.underlying41 rfl) _) rfl ?_
        refine WL_val gd0 ((o_add rfl rfl) _) rfl ?_
        refine WL_val gd0 ((o_assign (v := .int .u64 (IntKind.u64.wrap ((IntKind.u64.wrap (2 * n15)) + (IntKind.u64.wrap (Int.tmod (shr .u8 x31 (IntKind.u64.wrap (IntKind.i64.wrap (7 - (Int.tmod x33 8))))) 2))))) rfl) _) rfl ?_
        refine WL_nil ?_
        refine nrm ?_
        refine WC_region ?_
        refine WL_val gd0 ((o_move (v := .pointer r1) (by exact e0_12)) _) rfl ?_
        refine WL_val gd0 ((o_move (v := .pointer r1) (by exact e0_12)) _) rfl ?_
        refine WL_val gd0 ((o_nilCheck (by exact (congrArg Value.pointer q8))) _) rfl ?_
        refine WL_val gd0 ((o_fieldAddr 1 Try.underlying62 rfl Try.sizeOf3 rfl rfl rfl) _) rfl ?_
        obtain ⟨x36, hc37, h⟩ := h
        refine WL_val gd0 (o_load Try.isAgg3 rfl hc37) rfl ?_
        refine WL_val gd0 ((o_add rfl rfl) _) rfl ?_
        refine WL_val gd0 ((o_nilCheck (by exact (congrArg Value.pointer q8))) _) rfl ?_
        refine WL_val gd0 ((o_fieldAddr 1 Try.underlying62 rfl Try.sizeOf3 rfl rfl rfl) _) rfl ?_
        obtain ⟨c39, h⟩ := h
        refine WL_act gd0 (o_store (v := .int .i64 (IntKind.i64.wrap (x36 + 1))) Try.sizeOf3 rfl rfl rfl c39) ?_
        generalize hw38 : World.setCell w18.drew (p7.add 1) (.int .i64 (IntKind.i64.wrap (x36 + 1))) = w38 at h ⊢
        try dsimp only at h
        refine WL_nil ?_
        refine nrmB ?_
        refine nrm ?_
        refine WC_region ?_
        refine WL_val gd0 ((o_move (v := .int .i64 i17) (by exact e6_16)) _) rfl ?_
        refine WL_val gd0 ((o_add rfl rfl) _) rfl ?_
        refine WL_val gd0 ((o_assign (v := .int .i64 (IntKind.i64.wrap (i17 + 1))) rfl) _) rfl ?_
        refine WL_nil ?_
        refine nrm ?_
        obtain ⟨m19, hm19, h⟩ := h
        exact ⟨m19, hm19, _, _, rfl, rfl, e0_12, e1_13, h⟩
      · rw [if_neg (of_decide_eq_false hb20)] at h
        refine WC_exit ?_
        refine exT ?_
        refine exT ?_
        refine exB ?_
        refine nrm ?_
        refine WC_seq ?_
        refine WC_region ?_
        refine WL_val gd0 ((o_move (v := .int .u64 n15) (by exact e5_14)) _) rfl ?_
        refine WL_val gd0 ((o_assign (v := .int .u64 n15) rfl) _) rfl ?_
        refine WL_nil ?_
        refine nrm ?_
        refine WC_ret ?_
        refine rtE ?_
        exact gv1 rfl rfl h

def F38_j1 (p5 : Addr) (p41 : Addr) (t62 : Bool) (w63 : World) (k : Value → World → Prop) : Prop :=
  if t62 = true then
  PutAll w63 p5 [.int .i64 0, .bool false, .bool false, .bool false, .int .i64 0, .int .i64 0] (fun w65 => ∃ (r67 : Int) (r68 r69 r70 : Bool) (r71 r72 : Int), Cells w65 p5 0 [.int .i64 r67, .bool r68, .bool r69, .bool r70, .int .i64 r71, .int .i64 r72] ∧ k (.tuple #[.agg #[.int .i64 r67, .bool r68, .bool r69, .bool r70, .int .i64 r71, .int .i64 r72], .int .i64 4]) w65)
else
  ∃ (x74 : Int) (x75 x76 x77 : Bool) (x78 x79 : Int), Cells w63 p41 0 [.int .i64 x74, .bool x75, .bool x76, .bool x77, .int .i64 x78, .int .i64 x79] ∧ PutAll w63 p5 [.int .i64 x74, .bool x75, .bool x76, .bool x77, .int .i64 x78, .int .i64 x79] (fun w81 => ∃ (r83 : Int) (r84 r85 r86 : Bool) (r87 r88 : Int), Cells w81 p5 0 [.int .i64 r83, .bool r84, .bool r85, .bool r86, .int .i64 r87, .int .i64 r88] ∧ k (.tuple #[.agg #[.int .i64 r83, .bool r84, .bool r85, .bool r86, .int .i64 r87, .int .i64 r88], .int .i64 0]) w81)
/-- spacecraft spacecraftref15.Decode -/
def F38 (b_a1 : Option Addr) (b_n2 : Nat) (b_c3 : Nat) (w4 : World) (k : Value → World → Prop) : Prop :=
  New w4 24 [.int .i64 0, .bool false, .bool false, .bool false, .int .i64 0, .int .i64 0] (fun p5 w6 => if (b_n2 : Int) < 4 then
  PutAll w6 p5 [.int .i64 0, .bool false, .bool false, .bool false, .int .i64 0, .int .i64 0] (fun w8 => ∃ (r10 : Int) (r11 r12 r13 : Bool) (r14 r15 : Int), Cells w8 p5 0 [.int .i64 r10, .bool r11, .bool r12, .bool r13, .int .i64 r14, .int .i64 r15] ∧ k (.tuple #[.agg #[.int .i64 r10, .bool r11, .bool r12, .bool r13, .int .i64 r14, .int .i64 r15], .int .i64 3]) w8)
else
  if 4 < (b_n2 : Int) then
    PutAll w6 p5 [.int .i64 0, .bool false, .bool false, .bool false, .int .i64 0, .int .i64 0] (fun w18 => ∃ (r20 : Int) (r21 r22 r23 : Bool) (r24 r25 : Int), Cells w18 p5 0 [.int .i64 r20, .bool r21, .bool r22, .bool r23, .int .i64 r24, .int .i64 r25] ∧ k (.tuple #[.agg #[.int .i64 r20, .bool r21, .bool r22, .bool r23, .int .i64 r24, .int .i64 r25], .int .i64 6]) w18)
  else
    ∃ (p29 : Addr), b_a1 = some p29 ∧ (0 : Int) ≤ 2 ∧ 2 < (b_n2 : Int) ∧ ∃ (x31 : Int), w6.cell? (p29.add ((2 : Int).toNat)) = some (.int .u8 x31) ∧ (0 : Int) ≤ 1 ∧ 1 < (b_n2 : Int) ∧ ∃ (x35 : Int), w6.drew.cell? (p29.add ((1 : Int).toNat)) = some (.int .u8 x35) ∧ (0 : Int) ≤ 3 ∧ 3 < (b_n2 : Int) ∧ ∃ (x39 : Int), w6.drew.cell? (p29.add ((3 : Int).toNat)) = some (.int .u8 x39) ∧ New w6.drew 24 [.int .i64 0, .bool false, .bool false, .bool false, .int .i64 0, .int .i64 0] (fun p41 w42 => w42.cell? (p29.add ((1 : Int).toNat)) = some (.int .u8 x35) ∧ w42.cell? (p29.add ((3 : Int).toNat)) = some (.int .u8 x39) ∧ PutAll w42 p41 [.int .i64 (IntKind.i64.wrap (Int.tdiv (IntKind.i64.wrap x35) 4)), .bool (decide ((Int.tmod (IntKind.i64.wrap (Int.tdiv (IntKind.i64.wrap x31) 32)) 2) = 1)), .bool (decide ((Int.tmod (IntKind.i64.wrap (Int.tdiv (IntKind.i64.wrap x31) 16)) 2) = 1)), .bool (decide ((Int.tmod (IntKind.i64.wrap (Int.tdiv (IntKind.i64.wrap x31) 8)) 2) = 1)), .int .i64 (Int.tmod (IntKind.i64.wrap (Int.tdiv (IntKind.i64.wrap x31) 2)) 4), .int .i64 (IntKind.i64.wrap x39)] (fun w45 => ∃ (x47 : Int) (x48 x49 x50 : Bool) (x51 x52 : Int), Cells w45 p41 0 [.int .i64 x47, .bool x48, .bool x49, .bool x50, .int .i64 x51, .int .i64 x52] ∧ Does Try.prog 23 #[.agg #[.int .i64 x47, .bool x48, .bool x49, .bool x50, .int .i64 x51, .int .i64 x52]] w45 (fun v w54 => ∃ (r_a55 : Option Addr) (r_n56 r_c57 : Nat) (r58 : Int), v = .tuple #[.slice r_a55 r_n56 r_c57, .int .i64 r58] ∧ if r58 ≠ 0 then
      F38_j1 p5 p41 true w54 k
    else
      ∃ (s91 : ByteArray), (Conv.bytesToString (.slice r_a55 r_n56 r_c57)).run Try.prog w54 = .ok (.string s91) w54 ∧ ∃ (s93 : ByteArray), (Conv.bytesToString (.slice b_a1 b_n2 b_c3)).run Try.prog w54 = .ok (.string s93) w54 ∧ F38_j1 p5 p41 (!(s91.toList == s93.toList)) w54 k))))
set_option maxRecDepth 100000 in
set_option maxHeartbeats 2000000 in
theorem w38 (b_a1 : Option Addr) (b_n2 : Nat) (b_c3 : Nat) (w4 : World) (k : Value → World → Prop) (h : F38 b_a1 b_n2 b_c3 w4 k) : Does Try.prog 38 #[.slice b_a1 b_n2 b_c3] w4 k := by
  refine enter 61 Try.func38 rfl rfl rfl ?_
  intro ρ hρ
  have e0 := hρ 0 _ rfl
  unfold F38 at h
  refine WC_seq ?_
  refine WC_region ?_
  have h := New.out h
  refine WL_val gd0 (o_alloc (z := .agg #[.int .i64 0, .bool false, .bool false, .bool false, .int .i64 0, .int .i64 0]) (cs := [.int .i64 0, .bool false, .bool false, .bool false, .int .i64 0, .int .i64 0]) Try.zeroValue24 rfl) rfl ?_
  generalize hp5 : fresh w4 = p5 at h ⊢
  generalize hw6 : push w4 24 [.int .i64 0, .bool false, .bool false, .bool false, .int .i64 0, .int .i64 0] = w6 at h ⊢
  try dsimp only at h
  refine WL_val gd0 ((o_assign (v := .int .i64 0) rfl) _) rfl ?_
  refine WL_nil ?_
  refine nrm ?_
  refine WC_seq ?_
  refine WC_seq ?_
  refine WC_region ?_
  refine WL_val gd0 ((o_move (v := .slice b_a1 b_n2 b_c3) (by exact e0)) _) rfl ?_
  refine WL_val gd0 ((o_len Try.underlying22 rfl) _) rfl ?_
  refine WL_val gd0 ((o_lss rfl rfl) _) rfl ?_
  refine WL_nil ?_
  refine nrm ?_
  refine WC_cond (t := (decide ((b_n2 : Int) < 4))) rfl (fun hb7 => ?_) (fun hb7 => ?_)
  · rw [if_pos (of_decide_eq_true hb7)] at h
    refine WC_seq ?_
    refine WC_region ?_
    refine WL_val gd0 ((o_build (ps := []) (v := .agg #[.int .i64 0, .bool false, .bool false, .bool false, .int .i64 0, .int .i64 0]) partNil (fun w => by kernel_rfl)) _) rfl ?_
    obtain ⟨c9, h⟩ := h
    refine WL_act gd0 (o_storeAgg (vs := [.int .i64 0, .bool false, .bool false, .bool false, .int .i64 0, .int .i64 0]) Try.sizeOf24 rfl rfl rfl c9) ?_
    generalize hw8 : setAll w6 p5 0 [.int .i64 0, .bool false, .bool false, .bool false, .int .i64 0, .int .i64 0] = w8 at h ⊢
    try dsimp only at h
    refine WL_val gd0 ((o_assign (v := .int .i64 3) rfl) _) rfl ?_
    refine WL_nil ?_
    refine nrm ?_
    refine WC_ret ?_
    refine rtT ?_
    refine rtE ?_
    obtain ⟨r10, r11, r12, r13, r14, r15, hc16, h⟩ := h
    exact gvC1 (vs := [.int .i64 r10, .bool r11, .bool r12, .bool r13, .int .i64 r14, .int .i64 r15]) rfl Try.isAgg24 Try.sizeOf24 rfl hc16 rfl h
  · rw [if_neg (of_decide_eq_false hb7)] at h
    refine WC_skip ?_
    refine nrm ?_
    refine WC_seq ?_
    refine WC_seq ?_
    refine WC_region ?_
    refine WL_val gd0 ((o_move (v := .slice b_a1 b_n2 b_c3) (by exact e0)) _) rfl ?_
    refine WL_val gd0 ((o_len Try.underlying22 rfl) _) rfl ?_
    refine WL_val gd0 ((o_gtr rfl rfl) _) rfl ?_
    refine WL_nil ?_
    refine nrm ?_
    refine WC_cond (t := (decide (4 < (b_n2 : Int)))) rfl (fun hb17 => ?_) (fun hb17 => ?_)
    · rw [if_pos (of_decide_eq_true hb17)] at h
      refine WC_seq ?_
      refine WC_region ?_
      refine WL_val gd0 ((o_build (ps := []) (v := .agg #[.int .i64 0, .bool false, .bool false, .bool false, .int .i64 0, .int .i64 0]) partNil (fun w => by kernel_rfl)) _) rfl ?_
      obtain ⟨c19, h⟩ := h
      refine WL_act gd0 (o_storeAgg (vs := [.int .i64 0, .bool false, .bool false, .bool false, .int .i64 0, .int .i64 0]) Try.sizeOf24 rfl rfl rfl c19) ?_
      generalize hw18 : setAll w6 p5 0 [.int .i64 0, .bool false, .bool false, .bool false, .int .i64 0, .int .i64 0] = w18 at h ⊢
      try dsimp only at h
      refine WL_val gd0 ((o_assign (v := .int .i64 6) rfl) _) rfl ?_
      refine WL_nil ?_
      refine nrm ?_
      refine WC_ret ?_
      refine rtT ?_
      refine rtE ?_
      obtain ⟨r20, r21, r22, r23, r24, r25, hc26, h⟩ := h
      exact gvC1 (vs := [.int .i64 r20, .bool r21, .bool r22, .bool r23, .int .i64 r24, .int .i64 r25]) rfl Try.isAgg24 Try.sizeOf24 rfl hc26 rfl h
    · rw [if_neg (of_decide_eq_false hb17)] at h
      refine WC_skip ?_
      refine nrm ?_
      refine WC_seq ?_
      refine WC_region ?_
      refine WL_val gd0 ((o_move (v := .slice b_a1 b_n2 b_c3) (by exact e0)) _) rfl ?_
      obtain ⟨p29, q30, h⟩ := h
      obtain ⟨l27, u28, h⟩ := h
      refine WL_val gd0 ((o_indexAddr1 Try.underlying22 Try.sizeOf5 (by exact (congrArg (fun z => Value.slice z b_n2 b_c3) q30)) rfl l27 u28) _) rfl ?_
      obtain ⟨x31, hc32, h⟩ := h
      refine WL_val gd0 (o_load Try.isAgg5 rfl hc32) rfl ?_
      refine WL_val gd0 ((o_conv Try.underlying5 Try.underlying3 rfl) _) rfl ?_
      refine WL_val gd0 ((o_assign (v := .int .i64 (IntKind.i64.wrap x31)) rfl) _) rfl ?_
      refine WL_nil ?_
      refine nrm ?_
      refine WC_seq ?_
      refine WC_draws [25, 26] (.look 0 (.look 1 (.look 2 (.look 3 (.look 4 (.look 5 (.look 6 (.look 7 (.look 8 (.look 9 (.look 10 (.look 11 (.look 12 (.look 13 (.look 14 (.look 15 (.look 16 (.look 17 (.look 18 (.look 19 (.look 20 (.look 21 (.look 22 (.look 23 (.look 24 (.act 25 (.act 26 .nil))))))))))))))))))))))))))) Try.mixed (by kernel_rfl) ?_
      refine WQ_val rfl gd0 (o_move (v := .slice b_a1 b_n2 b_c3) (by exact e0)) rfl ?_
      obtain ⟨l33, u34, h⟩ := h
      refine WQ_val rfl gd0 (o_indexAddr1 Try.underlying22 Try.sizeOf5 (by exact (congrArg (fun z => Value.slice z b_n2 b_c3) q30)) rfl l33 u34) rfl ?_
      obtain ⟨x35, hc36, h⟩ := h
      refine WQ_look (fun w => w.cell? (p29.add ((1 : Int).toNat)) = some (.int .u8 x35)) rfl gd0 (fun w hc => (o_load Try.isAgg5 rfl hc)) hc36 rfl ?_
      refine WQ_val rfl gd0 (o_conv Try.underlying5 Try.underlying3 rfl) rfl ?_
      refine WQ_val rfl gd0 (fun w => o_quo rfl rfl w (by decide)) rfl ?_
      refine WQ_val rfl gd0 (o_move (v := .int .i64 (IntKind.i64.wrap x31)) rfl) rfl ?_
      refine WQ_val rfl gd0 (fun w => o_quo rfl rfl w (by decide)) rfl ?_
      refine WQ_val rfl gd0 (fun w => o_rem rfl rfl w (by decide)) rfl ?_
      refine WQ_val rfl gd0 (o_eql rfl rfl) rfl ?_
      refine WQ_val rfl gd0 (o_move (v := .int .i64 (IntKind.i64.wrap x31)) rfl) rfl ?_
      refine WQ_val rfl gd0 (fun w => o_quo rfl rfl w (by decide)) rfl ?_
      refine WQ_val rfl gd0 (fun w => o_rem rfl rfl w (by decide)) rfl ?_
      refine WQ_val rfl gd0 (o_eql rfl rfl) rfl ?_
      refine WQ_val rfl gd0 (o_move (v := .int .i64 (IntKind.i64.wrap x31)) rfl) rfl ?_
      refine WQ_val rfl gd0 (fun w => o_quo rfl rfl w (by decide)) rfl ?_
      refine WQ_val rfl gd0 (fun w => o_rem rfl rfl w (by decide)) rfl ?_
      refine WQ_val rfl gd0 (o_eql rfl rfl) rfl ?_
      refine WQ_val rfl gd0 (o_move (v := .int .i64 (IntKind.i64.wrap x31)) rfl) rfl ?_
      refine WQ_val rfl gd0 (fun w => o_quo rfl rfl w (by decide)) rfl ?_
      refine WQ_val rfl gd0 (fun w => o_rem rfl rfl w (by decide)) rfl ?_
      refine WQ_val rfl gd0 (o_move (v := .slice b_a1 b_n2 b_c3) (by exact e0)) rfl ?_
      obtain ⟨l37, u38, h⟩ := h
      refine WQ_val rfl gd0 (o_indexAddr1 Try.underlying22 Try.sizeOf5 (by exact (congrArg (fun z => Value.slice z b_n2 b_c3) q30)) rfl l37 u38) rfl ?_
      obtain ⟨x39, hc40, h⟩ := h
      refine WQ_look (fun w => w.cell? (p29.add ((3 : Int).toNat)) = some (.int .u8 x39)) rfl gd0 (fun w hc => (o_load Try.isAgg5 rfl hc)) hc40 rfl ?_
      refine WQ_val rfl gd0 (o_conv Try.underlying5 Try.underlying3 rfl) rfl ?_
      refine WQ_val rfl gd0 (o_build (ps := [(0, .int .i64 (IntKind.i64.wrap (Int.tdiv (IntKind.i64.wrap x35) 4))), (1, .bool (decide ((Int.tmod (IntKind.i64.wrap (Int.tdiv (IntKind.i64.wrap x31) 32)) 2) = 1))), (2, .bool (decide ((Int.tmod (IntKind.i64.wrap (Int.tdiv (IntKind.i64.wrap x31) 16)) 2) = 1))), (3, .bool (decide ((Int.tmod (IntKind.i64.wrap (Int.tdiv (IntKind.i64.wrap x31) 8)) 2) = 1))), (4, .int .i64 (Int.tmod (IntKind.i64.wrap (Int.tdiv (IntKind.i64.wrap x31) 2)) 4)), (5, .int .i64 (IntKind.i64.wrap x39))]) (v := .agg #[.int .i64 (IntKind.i64.wrap (Int.tdiv (IntKind.i64.wrap x35) 4)), .bool (decide ((Int.tmod (IntKind.i64.wrap (Int.tdiv (IntKind.i64.wrap x31) 32)) 2) = 1)), .bool (decide ((Int.tmod (IntKind.i64.wrap (Int.tdiv (IntKind.i64.wrap x31) 16)) 2) = 1)), .bool (decide ((Int.tmod (IntKind.i64.wrap (Int.tdiv (IntKind.i64.wrap x31) 8)) 2) = 1)), .int .i64 (Int.tmod (IntKind.i64.wrap (Int.tdiv (IntKind.i64.wrap x31) 2)) 4), .int .i64 (IntKind.i64.wrap x39)]) (partCons rfl (partCons rfl (partCons rfl (partCons rfl (partCons rfl (partCons rfl partNil)))))) (fun w => by kernel_rfl)) rfl ?_
      have h := New.out h
      obtain ⟨hh43, hh44, h⟩ := h
      refine WQ_act rfl gd0 (o_alloc (z := .agg #[.int .i64 0, .bool false, .bool false, .bool false, .int .i64 0, .int .i64 0]) (cs := [.int .i64 0, .bool false, .bool false, .bool false, .int .i64 0, .int .i64 0]) Try.zeroValue24 rfl) rfl (by exact ⟨⟨trivial, fun _ => hh43⟩, fun _ => hh44⟩) ?_
      generalize hp41 : fresh w6.drew = p41 at h ⊢
      generalize hw42 : push w6.drew 24 [.int .i64 0, .bool false, .bool false, .bool false, .int .i64 0, .int .i64 0] = w42 at h ⊢
      try dsimp only at h
      obtain ⟨c46, h⟩ := h
      refine WQ_do rfl gd0 (o_storeAgg (vs := [.int .i64 (IntKind.i64.wrap (Int.tdiv (IntKind.i64.wrap x35) 4)), .bool (decide ((Int.tmod (IntKind.i64.wrap (Int.tdiv (IntKind.i64.wrap x31) 32)) 2) = 1)), .bool (decide ((Int.tmod (IntKind.i64.wrap (Int.tdiv (IntKind.i64.wrap x31) 16)) 2) = 1)), .bool (decide ((Int.tmod (IntKind.i64.wrap (Int.tdiv (IntKind.i64.wrap x31) 8)) 2) = 1)), .int .i64 (Int.tmod (IntKind.i64.wrap (Int.tdiv (IntKind.i64.wrap x31) 2)) 4), .int .i64 (IntKind.i64.wrap x39)]) Try.sizeOf24 rfl rfl rfl c46) (by exact ⟨⟨trivial, depT (by kernel_rfl)⟩, depT (by kernel_rfl)⟩) ?_
      generalize hw45 : setAll w42 p41 0 [.int .i64 (IntKind.i64.wrap (Int.tdiv (IntKind.i64.wrap x35) 4)), .bool (decide ((Int.tmod (IntKind.i64.wrap (Int.tdiv (IntKind.i64.wrap x31) 32)) 2) = 1)), .bool (decide ((Int.tmod (IntKind.i64.wrap (Int.tdiv (IntKind.i64.wrap x31) 16)) 2) = 1)), .bool (decide ((Int.tmod (IntKind.i64.wrap (Int.tdiv (IntKind.i64.wrap x31) 8)) 2) = 1)), .int .i64 (Int.tmod (IntKind.i64.wrap (Int.tdiv (IntKind.i64.wrap x31) 2)) 4), .int .i64 (IntKind.i64.wrap x39)] = w45 at h ⊢
      try dsimp only at h
      refine WQ_nil ?_
      refine nrm ?_
      refine WC_seq ?_
      refine WC_region ?_
      obtain ⟨x47, x48, x49, x50, x51, x52, hc53, h⟩ := h
      refine WL_val gd0 (o_loadAgg (vs := [.int .i64 x47, .bool x48, .bool x49, .bool x50, .int .i64 x51, .int .i64 x52]) Try.isAgg24 Try.sizeOf24 rfl hc53) rfl ?_
      refine WL_call gd0 (o_call Try.call23 (argCons rfl argNil) _) rfl (h.mono ?_)
      rintro _ w54 ⟨r_a55, r_n56, r_c57, r58, rfl, h⟩
      refine WL_val gd0 ((o_move (v := .tuple #[.slice r_a55 r_n56 r_c57, .int .i64 r58]) rfl) _) rfl ?_
      refine WL_val gd0 ((o_extract (vs := [.slice r_a55 r_n56 r_c57, .int .i64 r58]) (r := .slice r_a55 r_n56 r_c57) rfl rfl) _) rfl ?_
      refine WL_val gd0 ((o_extract (vs := [.slice r_a55 r_n56 r_c57, .int .i64 r58]) (r := .int .i64 r58) rfl rfl) _) rfl ?_
      refine WL_val gd0 ((o_assign (v := .slice r_a55 r_n56 r_c57) rfl) _) rfl ?_
      refine WL_val gd0 ((o_assign (v := .int .i64 r58) rfl) _) rfl ?_
      refine WL_nil ?_
      refine nrm ?_
      refine WC_seq ?_
      refine WC_cut (fun ρ w' => ∃ (t62 : Bool), ρ 58 = .bool t62 ∧ ρ 2 = .pointer (some p5) ∧ ρ 5 = .pointer (some p41) ∧ F38_j1 p5 p41 t62 w' k) ?_ ?_
      · refine WC_region ?_
        refine WL_val gd0 ((o_move (v := .int .i64 r58) rfl) _) rfl ?_
        refine WL_val gd0 ((o_neq rfl rfl) _) rfl ?_
        refine WL_val gd0 ((o_move (v := .bool (decide (r58 ≠ 0))) rfl) _) rfl ?_
        refine bsplit (decide (r58 ≠ 0)) (fun hb90 => ?_) (fun hb90 => ?_)
        · rw [if_pos (of_decide_eq_true hb90)] at h
          refine WL_skip (gdN (b := (decide (r58 ≠ 0))) 52 rfl rfl hb90) rfl ?_
          refine WL_skip (gdN (b := (decide (r58 ≠ 0))) 52 rfl rfl hb90) rfl ?_
          refine WL_skip (gdN (b := (decide (r58 ≠ 0))) 52 rfl rfl hb90) rfl ?_
          refine WL_skip (gdN (b := (decide (r58 ≠ 0))) 52 rfl rfl hb90) rfl ?_
          refine WL_skip (gdN (b := (decide (r58 ≠ 0))) 52 rfl rfl hb90) rfl ?_
          refine WL_val gd0 ((o_pickT (v := .bool true) rfl hb90 rfl) _) rfl ?_
          refine WL_nil ?_
          refine nrm ?_
          exact ⟨_, rfl, rfl, rfl, h⟩
        · rw [if_neg (of_decide_eq_false hb90)] at h
          refine WL_val (gdY (b := (decide (r58 ≠ 0))) 52 rfl rfl hb90) ((o_move (v := .slice r_a55 r_n56 r_c57) rfl) _) rfl ?_
          obtain ⟨s91, r92, h⟩ := h
          refine WL_val (gdY (b := (decide (r58 ≠ 0))) 52 rfl rfl hb90) (o_toStr Try.underlying22 Try.underlying5 Try.underlying9 rfl r92) rfl ?_
          refine WL_val (gdY (b := (decide (r58 ≠ 0))) 52 rfl rfl hb90) ((o_move (v := .slice b_a1 b_n2 b_c3) (by exact e0)) _) rfl ?_
          obtain ⟨s93, r94, h⟩ := h
          refine WL_val (gdY (b := (decide (r58 ≠ 0))) 52 rfl rfl hb90) (o_toStr Try.underlying22 Try.underlying5 Try.underlying9 rfl r94) rfl ?_
          refine WL_val (gdY (b := (decide (r58 ≠ 0))) 52 rfl rfl hb90) ((o_neqStr rfl rfl) _) rfl ?_
          refine WL_val gd0 ((o_pickF (v := .bool (!(s91.toList == s93.toList))) rfl hb90 rfl) _) rfl ?_
          refine WL_nil ?_
          refine nrm ?_
          exact ⟨_, rfl, rfl, rfl, h⟩
      · rintro ρ w63 ⟨t62, e58_61, e2_59, e5_60, h⟩
        unfold F38_j1 at h
        refine WC_cond (t := t62) (by exact e58_61) (fun hb64 => ?_) (fun hb64 => ?_)
        · rw [if_pos hb64] at h
          refine WC_seq ?_
          refine WC_region ?_
          refine WL_val gd0 ((o_build (ps := []) (v := .agg #[.int .i64 0, .bool false, .bool false, .bool false, .int .i64 0, .int .i64 0]) partNil (fun w => by kernel_rfl)) _) rfl ?_
          obtain ⟨c66, h⟩ := h
          refine WL_act gd0 (o_storeAgg (vs := [.int .i64 0, .bool false, .bool false, .bool false, .int .i64 0, .int .i64 0]) Try.sizeOf24 (by exact e2_59) rfl rfl c66) ?_
          generalize hw65 : setAll w63 p5 0 [.int .i64 0, .bool false, .bool false, .bool false, .int .i64 0, .int .i64 0] = w65 at h ⊢
          try dsimp only at h
          refine WL_val gd0 ((o_assign (v := .int .i64 4) rfl) _) rfl ?_
          refine WL_nil ?_
          refine nrm ?_
          refine WC_ret ?_
          refine rtT ?_
          refine rtE ?_
          obtain ⟨r67, r68, r69, r70, r71, r72, hc73, h⟩ := h
          exact gvC1 (vs := [.int .i64 r67, .bool r68, .bool r69, .bool r70, .int .i64 r71, .int .i64 r72]) rfl Try.isAgg24 Try.sizeOf24 (by exact e2_59) hc73 rfl h
        · rw [if_neg (neT hb64)] at h
          refine WC_skip ?_
          refine nrm ?_
          refine WC_seq ?_
          refine WC_region ?_
          obtain ⟨x74, x75, x76, x77, x78, x79, hc80, h⟩ := h
          refine WL_val gd0 (o_loadAgg (vs := [.int .i64 x74, .bool x75, .bool x76, .bool x77, .int .i64 x78, .int .i64 x79]) Try.isAgg24 Try.sizeOf24 (by exact e5_60) hc80) rfl ?_
          obtain ⟨c82, h⟩ := h
          refine WL_act gd0 (o_storeAgg (vs := [.int .i64 x74, .bool x75, .bool x76, .bool x77, .int .i64 x78, .int .i64 x79]) Try.sizeOf24 (by exact e2_59) rfl rfl c82) ?_
          generalize hw81 : setAll w63 p5 0 [.int .i64 x74, .bool x75, .bool x76, .bool x77, .int .i64 x78, .int .i64 x79] = w81 at h ⊢
          try dsimp only at h
          refine WL_val gd0 ((o_assign (v := .int .i64 0) rfl) _) rfl ?_
          refine WL_nil ?_
          refine nrm ?_
          refine WC_ret ?_
          refine rtE ?_
          obtain ⟨r83, r84, r85, r86, r87, r88, hc89, h⟩ := h
          exact gvC1 (vs := [.int .i64 r83, .bool r84, .bool r85, .bool r86, .int .i64 r87, .int .i64 r88]) rfl Try.isAgg24 Try.sizeOf24 (by exact e2_59) hc89 rfl h

/-- (*spacecraft bits.Writer).ok -/
def F39 (w1 : Option Addr) (w2 : World) (k : Value → World → Prop) : Prop :=
  if (!(w1).isNone) = true then
  ∃ (p4 : Addr), w1 = some p4 ∧ ∃ (x6 : Bool), w2.cell? p4 = some (.bool x6) ∧ k (.bool x6) w2
else
  k (.bool false) w2
set_option maxRecDepth 100000 in
set_option maxHeartbeats 2000000 in
theorem w39 (w1 : Option Addr) (w2 : World) (k : Value → World → Prop) (h : F39 w1 w2 k) : Does Try.prog 39 #[.pointer w1] w2 k := by
  refine enter 11 Try.func39 rfl rfl rfl ?_
  intro ρ hρ
  have e0 := hρ 0 _ rfl
  unfold F39 at h
  refine WC_seq ?_
  refine WC_region ?_
  refine WL_val gd0 ((o_assign (v := .bool false) rfl) _) rfl ?_
  refine WL_nil ?_
  refine nrm ?_
  refine WC_seq ?_
  refine WC_region ?_
  refine WL_val gd0 ((o_move (v := .pointer w1) (by exact e0)) _) rfl ?_
  refine WL_val gd0 ((o_neqPtrNil Try.underlying38 rfl rfl) _) rfl ?_
  refine WL_val gd0 ((o_move (v := .bool (!(w1).isNone)) rfl) _) rfl ?_
  refine bsplit (!(w1).isNone) (fun hb3 => ?_) (fun hb3 => ?_)
  · rw [if_pos hb3] at h
    refine WL_val (gdY (b := (!(w1).isNone)) 5 rfl rfl hb3) ((o_move (v := .pointer w1) (by exact e0)) _) rfl ?_
    obtain ⟨p4, q5, h⟩ := h
    refine WL_val (gdY (b := (!(w1).isNone)) 5 rfl rfl hb3) ((o_nilCheck (by exact (congrArg Value.pointer q5))) _) rfl ?_
    refine WL_val (gdY (b := (!(w1).isNone)) 5 rfl rfl hb3) ((o_fieldAddr0 Try.underlying64 rfl Try.sizeOf4 rfl rfl rfl) _) rfl ?_
    obtain ⟨x6, hc7, h⟩ := h
    refine WL_val (gdY (b := (!(w1).isNone)) 5 rfl rfl hb3) (o_load Try.isAgg4 rfl hc7) rfl ?_
    refine WL_val gd0 ((o_pickT (v := .bool x6) rfl hb3 rfl) _) rfl ?_
    refine WL_val gd0 ((o_assign (v := .bool x6) rfl) _) rfl ?_
    refine WL_nil ?_
    refine nrm ?_
    refine WC_ret ?_
    refine rtE ?_
    exact gv1 rfl rfl h
  · rw [if_neg (neT hb3)] at h
    refine WL_skip (gdN (b := (!(w1).isNone)) 5 rfl rfl hb3) rfl ?_
    refine WL_skip (gdN (b := (!(w1).isNone)) 5 rfl rfl hb3) rfl ?_
    refine WL_skip (gdN (b := (!(w1).isNone)) 5 rfl rfl hb3) rfl ?_
    refine WL_skip (gdN (b := (!(w1).isNone)) 5 rfl rfl hb3) rfl ?_
    refine WL_val gd0 ((o_pickF (v := .bool false) rfl hb3 rfl) _) rfl ?_
    refine WL_val gd0 ((o_assign (v := .bool false) rfl) _) rfl ?_
    refine WL_nil ?_
    refine nrm ?_
    refine WC_ret ?_
    refine rtE ?_
    exact gv1 rfl rfl h

/-- spacecraft clcw.flag -/
def F40 (b1 : Bool) (w2 : World) (k : Value → World → Prop) : Prop :=
  if b1 = true then
  k (.int .u64 1) w2
else
  k (.int .u64 0) w2
set_option maxRecDepth 100000 in
set_option maxHeartbeats 2000000 in
theorem w40 (b1 : Bool) (w2 : World) (k : Value → World → Prop) (h : F40 b1 w2 k) : Does Try.prog 40 #[.bool b1] w2 k := by
  refine enter 4 Try.func40 rfl rfl rfl ?_
  intro ρ hρ
  have e0 := hρ 0 _ rfl
  unfold F40 at h
  refine WC_seq ?_
  refine WC_region ?_
  refine WL_val gd0 ((o_assign (v := .int .u64 0) rfl) _) rfl ?_
  refine WL_nil ?_
  refine nrm ?_
  refine WC_seq ?_
  refine WC_seq ?_
  refine WC_region ?_
  refine WL_val gd0 ((o_move (v := .bool b1) (by exact e0)) _) rfl ?_
  refine WL_nil ?_
  refine nrm ?_
  refine WC_cond (t := b1) rfl (fun hb3 => ?_) (fun hb3 => ?_)
  · rw [if_pos hb3] at h
    refine WC_seq ?_
    refine WC_region ?_
    refine WL_val gd0 ((o_assign (v := .int .u64 1) rfl) _) rfl ?_
    refine WL_nil ?_
    refine nrm ?_
    refine WC_ret ?_
    refine rtT ?_
    refine rtE ?_
    exact gv1 rfl rfl h
  · rw [if_neg (neT hb3)] at h
    refine WC_skip ?_
    refine nrm ?_
    refine WC_seq ?_
    refine WC_region ?_
    refine WL_val gd0 ((o_assign (v := .int .u64 0) rfl) _) rfl ?_
    refine WL_nil ?_
    refine nrm ?_
    refine WC_ret ?_
    refine rtE ?_
    exact gv1 rfl rfl h

/-- spacecraft crc.Sum16 -/
def F41 (b_a1 : Option Addr) (b_n2 : Nat) (b_c3 : Nat) (w4 : World) (k : Value → World → Prop) : Prop :=
  Does Try.prog 49 #[.int .u16 65535, .slice b_a1 b_n2 b_c3] w4 (fun v w5 => ∃ (t6 : Int), v = .int .u16 t6 ∧ k (.int .u16 t6) w5)
set_option maxRecDepth 100000 in
set_option maxHeartbeats 2000000 in
theorem w41 (b_a1 : Option Addr) (b_n2 : Nat) (b_c3 : Nat) (w4 : World) (k : Value → World → Prop) (h : F41 b_a1 b_n2 b_c3 w4 k) : Does Try.prog 41 #[.slice b_a1 b_n2 b_c3] w4 k := by
  refine enter 5 Try.func41 rfl rfl rfl ?_
  intro ρ hρ
  have e0 := hρ 0 _ rfl
  unfold F41 at h
  refine WC_seq ?_
  refine WC_region ?_
  refine WL_val gd0 ((o_assign (v := .int .u16 0) rfl) _) rfl ?_
  refine WL_nil ?_
  refine nrm ?_
  refine WC_seq ?_
  refine WC_region ?_
  refine WL_val gd0 ((o_move (v := .slice b_a1 b_n2 b_c3) (by exact e0)) _) rfl ?_
  refine WL_call gd0 (o_call Try.call49 (argCons rfl (argCons rfl argNil)) _) rfl (h.mono ?_)
  rintro _ w5 ⟨t6, rfl, h⟩
  refine WL_val gd0 ((o_assign (v := .int .u16 t6) rfl) _) rfl ?_
  refine WL_nil ?_
  refine nrm ?_
  refine WC_ret ?_
  refine rtE ?_
  exact gv1 rfl rfl h

/-- slices.Clone   byte,byte  -/
def F42 (s_a1 : Option Addr) (s_n2 : Nat) (s_c3 : Nat) (w4 : World) (k : Value → World → Prop) : Prop :=
  if (s_a1).isNone = true then
  k (.slice none 0 0) w4
else
  New w4 5 [] (fun p6 w7 => ∃ (b_a8 : Option Addr) (b_n9 b_c10 : Nat) (w11 : World), (Builtin.append_ #[22, 22] 22 #[.slice (some p6) 0 0, .slice s_a1 s_n2 s_c3]).run Try.prog w7 = .ok (.slice b_a8 b_n9 b_c10) w11 ∧ k (.slice b_a8 b_n9 b_c10) w11)
set_option maxRecDepth 100000 in
set_option maxHeartbeats 2000000 in
theorem w42 (s_a1 : Option Addr) (s_n2 : Nat) (s_c3 : Nat) (w4 : World) (k : Value → World → Prop) (h : F42 s_a1 s_n2 s_c3 w4 k) : Does Try.prog 42 #[.slice s_a1 s_n2 s_c3] w4 k := by
  refine enter 8 Try.func42 rfl rfl rfl ?_
  intro ρ hρ
  have e0 := hρ 0 _ rfl
  unfold F42 at h
  refine WC_seq ?_
  refine WC_region ?_
  refine WL_val gd0 ((o_assign (v := .slice none 0 0) rfl) _) rfl ?_
  refine WL_nil ?_
  refine nrm ?_
  refine WC_seq ?_
  refine WC_seq ?_
  refine WC_region ?_
  refine WL_val gd0 ((o_move (v := .slice s_a1 s_n2 s_c3) (by exact e0)) _) rfl ?_
  refine WL_val gd0 ((o_eqlSliceNil Try.underlying22 rfl rfl) _) rfl ?_
  refine WL_nil ?_
  refine nrm ?_
  refine WC_cond (t := ((s_a1).isNone)) rfl (fun hb5 => ?_) (fun hb5 => ?_)
  · rw [if_pos hb5] at h
    refine WC_seq ?_
    refine WC_region ?_
    refine WL_val gd0 ((o_assign (v := .slice none 0 0) rfl) _) rfl ?_
    refine WL_nil ?_
    refine nrm ?_
    refine WC_ret ?_
    refine rtT ?_
    refine rtE ?_
    exact gv1 rfl rfl h
  · rw [if_neg (neT hb5)] at h
    refine WC_skip ?_
    refine nrm ?_
    refine WC_seq ?_
    refine WC_region ?_
    have h := New.out h
    refine WL_val gd0 (o_buildSlice (e := 5) (ps := []) (cs := []) partNil (fun w => by kernel_rfl)) rfl ?_
    generalize hp6 : fresh w4 = p6 at h ⊢
    generalize hw7 : push w4 5 [] = w7 at h ⊢
    try dsimp only at h
    refine WL_val gd0 ((o_move (v := .slice s_a1 s_n2 s_c3) (by exact e0)) _) rfl ?_
    obtain ⟨b_a8, b_n9, b_c10, w11, r12, h⟩ := h
    refine WL_val gd0 (o_append rfl rfl r12) rfl ?_
    refine WL_val gd0 ((o_assign (v := .slice b_a8 b_n9 b_c10) rfl) _) rfl ?_
    refine WL_nil ?_
    refine nrm ?_
    refine WC_ret ?_
    refine rtE ?_
    exact gv1 rfl rfl h

/-- spacecraft spacecraftref15.flag -/
def F44 (is1 : Bool) (n2 : Int) (w3 : World) (k : Value → World → Prop) : Prop :=
  if is1 = true then
  k (.int .i64 n2) w3
else
  k (.int .i64 0) w3
set_option maxRecDepth 100000 in
set_option maxHeartbeats 2000000 in
theorem w44 (is1 : Bool) (n2 : Int) (w3 : World) (k : Value → World → Prop) (h : F44 is1 n2 w3 k) : Does Try.prog 44 #[.bool is1, .int .i64 n2] w3 k := by
  refine enter 7 Try.func44 rfl rfl rfl ?_
  intro ρ hρ
  have e0 := hρ 0 _ rfl
  have e1 := hρ 1 _ rfl
  unfold F44 at h
  refine WC_seq ?_
  refine WC_region ?_
  refine WL_val gd0 ((o_assign (v := .int .i64 0) rfl) _) rfl ?_
  refine WL_nil ?_
  refine nrm ?_
  refine WC_seq ?_
  refine WC_seq ?_
  refine WC_region ?_
  refine WL_val gd0 ((o_move (v := .bool is1) (by exact e0)) _) rfl ?_
  refine WL_nil ?_
  refine nrm ?_
  refine WC_cond (t := is1) rfl (fun hb4 => ?_) (fun hb4 => ?_)
  · rw [if_pos hb4] at h
    refine WC_seq ?_
    refine WC_region ?_
    refine WL_val gd0 ((o_move (v := .int .i64 n2) (by exact e1)) _) rfl ?_
    refine WL_val gd0 ((o_assign (v := .int .i64 n2) rfl) _) rfl ?_
    refine WL_nil ?_
    refine nrm ?_
    refine WC_ret ?_
    refine rtT ?_
    refine rtE ?_
    exact gv1 rfl rfl h
  · rw [if_neg (neT hb4)] at h
    refine WC_skip ?_
    refine nrm ?_
    refine WC_seq ?_
    refine WC_region ?_
    refine WL_val gd0 ((o_assign (v := .int .i64 0) rfl) _) rfl ?_
    refine WL_nil ?_
    refine nrm ?_
    refine WC_ret ?_
    refine rtE ?_
    exact gv1 rfl rfl h

def F45_b1 (b_n3 : Nat) (b_a2 : Option Addr) (b_c4 : Nat) (r8 : Int) (i10 : Int) (w11 : World) (nx11 : Int → Int → World → Prop) (k : Value → World → Prop) : Prop :=
  if i10 < (IntKind.i64.wrap (8 * (b_n3 : Int))) then
  Does Try.prog 50 #[.slice b_a2 b_n3 b_c4, .int .i64 i10] w11 (fun v w14 => ∃ (x15 : Int), v = .int .i64 x15 ∧ if (Int.tmod (IntKind.i64.wrap ((shr .i64 r8 15) + x15)) 2) = 1 then
    nx11 (bxor .i64 (Int.tmod (IntKind.i64.wrap (r8 * 2)) 65536) 4129) (IntKind.i64.wrap (i10 + 1)) w14
  else
    nx11 (Int.tmod (IntKind.i64.wrap (r8 * 2)) 65536) (IntKind.i64.wrap (i10 + 1)) w14)
else
  k (.int .u16 (IntKind.u16.wrap r8)) w11
/-- spacecraft spacecraftref01.Update16 -/
def F45 (c1 : Int) (b_a2 : Option Addr) (b_n3 : Nat) (b_c4 : Nat) (w5 : World) (k : Value → World → Prop) : Prop :=
  LoopP (fun (s : Int × Int) w' nx' => F45_b1 b_n3 b_a2 b_c4 (s.1) (s.2) w' (fun x0 x1 w => nx' (x0, x1) w) k) ((IntKind.i64.wrap c1), 0) w5
set_option maxRecDepth 100000 in
set_option maxHeartbeats 2000000 in
theorem w45 (c1 : Int) (b_a2 : Option Addr) (b_n3 : Nat) (b_c4 : Nat) (w5 : World) (k : Value → World → Prop) (h : F45 c1 b_a2 b_n3 b_c4 w5 k) : Does Try.prog 45 #[.int .u16 c1, .slice b_a2 b_n3 b_c4] w5 k := by
  refine enter 33 Try.func45 rfl rfl rfl ?_
  intro ρ hρ
  have e0 := hρ 0 _ rfl
  have e1 := hρ 1 _ rfl
  unfold F45 at h
  refine WC_seq ?_
  refine WC_region ?_
  refine WL_val gd0 ((o_assign (v := .int .u16 0) rfl) _) rfl ?_
  refine WL_nil ?_
  refine nrm ?_
  refine WC_seq ?_
  refine WC_region ?_
  refine WL_val gd0 ((o_move (v := .int .u16 c1) (by exact e0)) _) rfl ?_
  refine WL_val gd0 ((o_conv Try.underlying50 Try.underlying3 rfl) _) rfl ?_
  refine WL_val gd0 ((o_assign (v := .int .i64 (IntKind.i64.wrap c1)) rfl) _) rfl ?_
  refine WL_nil ?_
  refine nrm ?_
  refine WC_seq ?_
  refine WC_seq ?_
  refine WC_region ?_
  refine WL_val gd0 ((o_assign (v := .int .i64 0) rfl) _) rfl ?_
  refine WL_nil ?_
  refine nrm ?_
  refine WC_block ?_
  obtain ⟨J11, ⟨n11, h0⟩, hr11⟩ := h
  refine WC_loop (fun n ρ w' => ∃ (r8 i10 : Int), ρ 5 = .int .i64 r8 ∧ ρ 6 = .int .i64 i10 ∧ ρ 1 = .slice b_a2 b_n3 b_c4 ∧ J11 n (r8, i10) w') ⟨n11, _, _, rfl, rfl, e1, h0⟩ ?_
  rintro n11 ρ w11 ⟨r8, i10, e5_7, e6_9, e1_6, h⟩
  have h : F45_b1 b_n3 b_a2 b_c4 r8 i10 w11 (fun x0 x1 w => ∃ m, m < n11 ∧ J11 m (x0, x1) w) k := hr11 n11 (r8, i10) w11 h
  unfold F45_b1 at h
  refine WC_seq ?_
  refine WC_seq ?_
  refine WC_region ?_
  refine WL_val gd0 ((o_move (v := .int .i64 i10) (by exact e6_9)) _) rfl ?_
  refine WL_val gd0 ((o_move (v := .slice b_a2 b_n3 b_c4) (by exact e1_6)) _) rfl ?_
  refine WL_val gd0 ((o_len Try.underlying22 rfl) _) rfl ?_
  refine WL_val gd0 ((o_mul rfl rfl) _) rfl ?_
  refine WL_val gd0 ((o_lss rfl rfl) _) rfl ?_
  refine WL_nil ?_
  refine nrm ?_
  refine WC_cond (t := (decide (i10 < (IntKind.i64.wrap (8 * (b_n3 : Int)))))) rfl (fun hb13 => ?_) (fun hb13 => ?_)
  · rw [if_pos (of_decide_eq_true hb13)] at h
    refine WC_skip ?_
    refine nrm ?_
    refine WC_seq ?_
    refine WC_block ?_
    refine WC_seq ?_
    refine WC_region ?_
    refine WL_val gd0 ((o_move (v := .int .i64 r8) (by exact e5_7)) _) rfl ?_
    refine WL_val gd0 ((o_shr rfl rfl (by decide)) _) rfl ?_
    refine WL_val gd0 ((o_move (v := .slice b_a2 b_n3 b_c4) (by exact e1_6)) _) rfl ?_
    refine WL_val gd0 ((o_move (v := .int .i64 i10) (by exact e6_9)) _) rfl ?_
    refine WL_call gd0 (o_call Try.call50 (argCons rfl (argCons rfl argNil)) _) rfl (h.mono ?_)
    rintro _ w14 ⟨x15, rfl, h⟩
    refine WL_val gd0 ((o_add rfl rfl) _) rfl ?_
    refine WL_val gd0 ((fun w => o_rem rfl rfl w (by decide)) _) rfl ?_
    refine WL_val gd0 ((o_eql rfl rfl) _) rfl ?_
    refine WL_val gd0 ((o_assign (v := .bool (decide ((Int.tmod (IntKind.i64.wrap ((shr .i64 r8 15) + x15)) 2) = 1))) rfl) _) rfl ?_
    refine WL_nil ?_
    refine nrm ?_
    refine WC_seq ?_
    refine WC_region ?_
    refine WL_val gd0 ((o_move (v := .int .i64 r8) (by exact e5_7)) _) rfl ?_
    refine WL_val gd0 ((o_mul rfl rfl) _) rfl ?_
    refine WL_val gd0 ((fun w => o_rem rfl rfl w (by decide)) _) rfl ?_
    refine WL_val gd0 ((o_assign (v := .int .i64 (Int.tmod (IntKind.i64.wrap (r8 * 2)) 65536)) rfl) _) rfl ?_
    refine WL_nil ?_
    refine nrm ?_
    refine WC_seq ?_
    refine WC_region ?_
    refine WL_val gd0 ((o_move (v := .bool (decide ((Int.tmod (IntKind.i64.wrap ((shr .i64 r8 15) + x15)) 2) = 1))) rfl) _) rfl ?_
    refine WL_nil ?_
    refine nrm ?_
    refine WC_cond (t := (decide ((Int.tmod (IntKind.i64.wrap ((shr .i64 r8 15) + x15)) 2) = 1))) rfl (fun hb16 => ?_) (fun hb16 => ?_)
    · rw [if_pos (of_decide_eq_true hb16)] at h
      refine WC_region ?_
      refine WL_val gd0 ((o_move (v := .int .i64 (Int.tmod (IntKind.i64.wrap (r8 * 2)) 65536)) rfl) _) rfl ?_
      refine WL_val gd0 ((o_xor rfl rfl) _) rfl ?_
      refine WL_val gd0 ((o_assign (v := .int .i64 (bxor .i64 (Int.tmod (IntKind.i64.wrap (r8 * 2)) 65536) 4129)) rfl) _) rfl ?_
      refine WL_nil ?_
      refine nrmB ?_
      refine nrm ?_
      refine WC_region ?_
      refine WL_val gd0 ((o_move (v := .int .i64 i10) (by exact e6_9)) _) rfl ?_
      refine WL_val gd0 ((o_add rfl rfl) _) rfl ?_
      refine WL_val gd0 ((o_assign (v := .int .i64 (IntKind.i64.wrap (i10 + 1))) rfl) _) rfl ?_
      refine WL_nil ?_
      refine nrm ?_
      obtain ⟨m12, hm12, h⟩ := h
      exact ⟨m12, hm12, _, _, rfl, rfl, e1_6, h⟩
    · rw [if_neg (of_decide_eq_false hb16)] at h
      refine WC_skip ?_
      refine nrmB ?_
      refine nrm ?_
      refine WC_region ?_
      refine WL_val gd0 ((o_move (v := .int .i64 i10) (by exact e6_9)) _) rfl ?_
      refine WL_val gd0 ((o_add rfl rfl) _) rfl ?_
      refine WL_val gd0 ((o_assign (v := .int .i64 (IntKind.i64.wrap (i10 + 1))) rfl) _) rfl ?_
      refine WL_nil ?_
      refine nrm ?_
      obtain ⟨m12, hm12, h⟩ := h
      exact ⟨m12, hm12, _, _, rfl, rfl, e1_6, h⟩
  · rw [if_neg (of_decide_eq_false hb13)] at h
    refine WC_exit ?_
    refine exT ?_
    refine exT ?_
    refine exB ?_
    refine nrm ?_
    refine WC_seq ?_
    refine WC_region ?_
    refine WL_val gd0 ((o_move (v := .int .i64 r8) (by exact e5_7)) _) rfl ?_
    refine WL_val gd0 ((o_conv Try.underlying3 Try.underlying50 rfl) _) rfl ?_
    refine WL_val gd0 ((o_assign (v := .int .u16 (IntKind.u16.wrap r8)) rfl) _) rfl ?_
    refine WL_nil ?_
    refine nrm ?_
    refine WC_ret ?_
    refine rtE ?_
    exact gv1 rfl rfl h

/-- (*spacecraft bits.Reader).ok -/
def F46 (r1 : Option Addr) (w2 : World) (k : Value → World → Prop) : Prop :=
  if (!(r1).isNone) = true then
  ∃ (p4 : Addr), r1 = some p4 ∧ ∃ (x6 : Bool), w2.cell? p4 = some (.bool x6) ∧ if x6 = true then
    ∃ (x9 : Bool), w2.cell? (p4.add 3) = some (.bool x9) ∧ k (.bool (!x9)) w2
  else
    k (.bool false) w2
else
  k (.bool false) w2
set_option maxRecDepth 100000 in
set_option maxHeartbeats 2000000 in
theorem w46 (r1 : Option Addr) (w2 : World) (k : Value → World → Prop) (h : F46 r1 w2 k) : Does Try.prog 46 #[.pointer r1] w2 k := by
  refine enter 18 Try.func46 rfl rfl rfl ?_
  intro ρ hρ
  have e0 := hρ 0 _ rfl
  unfold F46 at h
  refine WC_seq ?_
  refine WC_region ?_
  refine WL_val gd0 ((o_assign (v := .bool false) rfl) _) rfl ?_
  refine WL_nil ?_
  refine nrm ?_
  refine WC_seq ?_
  refine WC_region ?_
  refine WL_val gd0 ((o_move (v := .pointer r1) (by exact e0)) _) rfl ?_
  refine WL_val gd0 ((o_neqPtrNil Try.underlying54 rfl rfl) _) rfl ?_
  refine WL_val gd0 ((o_move (v := .bool (!(r1).isNone)) rfl) _) rfl ?_
  refine bsplit (!(r1).isNone) (fun hb3 => ?_) (fun hb3 => ?_)
  · rw [if_pos hb3] at h
    refine WL_val (gdY (b := (!(r1).isNone)) 5 rfl rfl hb3) ((o_move (v := .pointer r1) (by exact e0)) _) rfl ?_
    obtain ⟨p4, q5, h⟩ := h
    refine WL_val (gdY (b := (!(r1).isNone)) 5 rfl rfl hb3) ((o_nilCheck (by exact (congrArg Value.pointer q5))) _) rfl ?_
    refine WL_val (gdY (b := (!(r1).isNone)) 5 rfl rfl hb3) ((o_fieldAddr0 Try.underlying71 rfl Try.sizeOf4 rfl rfl rfl) _) rfl ?_
    obtain ⟨x6, hc7, h⟩ := h
    refine WL_val (gdY (b := (!(r1).isNone)) 5 rfl rfl hb3) (o_load Try.isAgg4 rfl hc7) rfl ?_
    refine WL_val gd0 ((o_pickT (v := .bool x6) rfl hb3 rfl) _) rfl ?_
    refine WL_val gd0 ((o_move (v := .bool x6) rfl) _) rfl ?_
    refine bsplit x6 (fun hb8 => ?_) (fun hb8 => ?_)
    · rw [if_pos hb8] at h
      refine WL_val (gdY (b := x6) 11 rfl rfl hb8) ((o_move (v := .pointer r1) (by exact e0)) _) rfl ?_
      refine WL_val (gdY (b := x6) 11 rfl rfl hb8) ((o_nilCheck (by exact (congrArg Value.pointer q5))) _) rfl ?_
      refine WL_val (gdY (b := x6) 11 rfl rfl hb8) ((o_fieldAddr 3 Try.underlying71 rfl Try.sizeOf4 rfl rfl rfl) _) rfl ?_
      obtain ⟨x9, hc10, h⟩ := h
      refine WL_val (gdY (b := x6) 11 rfl rfl hb8) (o_load Try.isAgg4 rfl hc10) rfl ?_
      refine WL_val (gdY (b := x6) 11 rfl rfl hb8) ((o_not rfl) _) rfl ?_
      refine WL_val gd0 ((o_pickT (v := .bool (!x9)) rfl hb8 rfl) _) rfl ?_
      refine WL_val gd0 ((o_assign (v := .bool (!x9)) rfl) _) rfl ?_
      refine WL_nil ?_
      refine nrm ?_
      refine WC_ret ?_
      refine rtE ?_
      exact gv1 rfl rfl h
    · rw [if_neg (neT hb8)] at h
      refine WL_skip (gdN (b := x6) 11 rfl rfl hb8) rfl ?_
      refine WL_skip (gdN (b := x6) 11 rfl rfl hb8) rfl ?_
      refine WL_skip (gdN (b := x6) 11 rfl rfl hb8) rfl ?_
      refine WL_skip (gdN (b := x6) 11 rfl rfl hb8) rfl ?_
      refine WL_skip (gdN (b := x6) 11 rfl rfl hb8) rfl ?_
      refine WL_val gd0 ((o_pickF (v := .bool false) rfl hb8 rfl) _) rfl ?_
      refine WL_val gd0 ((o_assign (v := .bool false) rfl) _) rfl ?_
      refine WL_nil ?_
      refine nrm ?_
      refine WC_ret ?_
      refine rtE ?_
      exact gv1 rfl rfl h
  · rw [if_neg (neT hb3)] at h
    refine WL_skip (gdN (b := (!(r1).isNone)) 5 rfl rfl hb3) rfl ?_
    refine WL_skip (gdN (b := (!(r1).isNone)) 5 rfl rfl hb3) rfl ?_
    refine WL_skip (gdN (b := (!(r1).isNone)) 5 rfl rfl hb3) rfl ?_
    refine WL_skip (gdN (b := (!(r1).isNone)) 5 rfl rfl hb3) rfl ?_
    refine WL_val gd0 ((o_pickF (v := .bool false) rfl hb3 rfl) _) rfl ?_
    refine WL_val gd0 ((o_move (v := .bool false) rfl) _) rfl ?_
    refine WL_skip (gdN (b := false) 11 rfl rfl rfl) rfl ?_
    refine WL_skip (gdN (b := false) 11 rfl rfl rfl) rfl ?_
    refine WL_skip (gdN (b := false) 11 rfl rfl rfl) rfl ?_
    refine WL_skip (gdN (b := false) 11 rfl rfl rfl) rfl ?_
    refine WL_skip (gdN (b := false) 11 rfl rfl rfl) rfl ?_
    refine WL_val gd0 ((o_pickF (v := .bool false) rfl rfl rfl) _) rfl ?_
    refine WL_val gd0 ((o_assign (v := .bool false) rfl) _) rfl ?_
    refine WL_nil ?_
    refine nrm ?_
    refine WC_ret ?_
    refine rtE ?_
    exact gv1 rfl rfl h

/-- (*spacecraft bits.Reader).Left -/
def F47 (r1 : Option Addr) (w2 : World) (k : Value → World → Prop) : Prop :=
  Does Try.prog 46 #[.pointer r1] w2 (fun v w3 => ∃ (x4 : Bool), v = .bool x4 ∧ if (!x4) = true then
  k (.int .i64 0) w3
else
  ∃ (p6 : Addr), r1 = some p6 ∧ ∃ (x_a8 : Option Addr) (x_n9 x_c10 : Nat), w3.drew.cell? (p6.add 1) = some (.slice x_a8 x_n9 x_c10) ∧ ∃ (x12 : Int), w3.drew.cell? (p6.add 2) = some (.int .i64 x12) ∧ k (.int .i64 (IntKind.i64.wrap ((IntKind.i64.wrap (8 * (x_n9 : Int))) - x12))) w3.drew)
set_option maxRecDepth 100000 in
set_option maxHeartbeats 2000000 in
theorem w47 (r1 : Option Addr) (w2 : World) (k : Value → World → Prop) (h : F47 r1 w2 k) : Does Try.prog 47 #[.pointer r1] w2 k := by
  refine enter 17 Try.func47 rfl rfl rfl ?_
  intro ρ hρ
  have e0 := hρ 0 _ rfl
  unfold F47 at h
  refine WC_seq ?_
  refine WC_region ?_
  refine WL_val gd0 ((o_assign (v := .int .i64 0) rfl) _) rfl ?_
  refine WL_nil ?_
  refine nrm ?_
  refine WC_seq ?_
  refine WC_seq ?_
  refine WC_region ?_
  refine WL_val gd0 ((o_move (v := .pointer r1) (by exact e0)) _) rfl ?_
  refine WL_call gd0 (o_call Try.call46 (argCons rfl argNil) _) rfl (h.mono ?_)
  rintro _ w3 ⟨x4, rfl, h⟩
  refine WL_val gd0 ((o_not rfl) _) rfl ?_
  refine WL_nil ?_
  refine nrm ?_
  refine WC_cond (t := (!x4)) rfl (fun hb5 => ?_) (fun hb5 => ?_)
  · rw [if_pos hb5] at h
    refine WC_seq ?_
    refine WC_region ?_
    refine WL_val gd0 ((o_assign (v := .int .i64 0) rfl) _) rfl ?_
    refine WL_nil ?_
    refine nrm ?_
    refine WC_ret ?_
    refine rtT ?_
    refine rtE ?_
    exact gv1 rfl rfl h
  · rw [if_neg (neT hb5)] at h
    refine WC_skip ?_
    refine nrm ?_
    refine WC_seq ?_
    refine WC_draws [] (.look 0 (.look 1 (.look 2 (.look 3 (.look 4 (.look 5 (.look 6 (.look 7 (.look 8 (.look 9 (.look 10 (.look 11 .nil)))))))))))) Try.mixed (by kernel_rfl) ?_
    refine WQ_val rfl gd0 (o_move (v := .pointer r1) (by exact e0)) rfl ?_
    obtain ⟨p6, q7, h⟩ := h
    refine WQ_val rfl gd0 (o_nilCheck (by exact (congrArg Value.pointer q7))) rfl ?_
    refine WQ_val rfl gd0 (o_fieldAddr 1 Try.underlying71 rfl Try.sizeOf22 rfl rfl rfl) rfl ?_
    obtain ⟨x_a8, x_n9, x_c10, hc11, h⟩ := h
    refine WQ_look (fun w => w.cell? (p6.add 1) = some (.slice x_a8 x_n9 x_c10)) rfl gd0 (fun w hc => (o_load Try.isAgg22 rfl hc)) hc11 rfl ?_
    refine WQ_val rfl gd0 (o_len Try.underlying22 rfl) rfl ?_
    refine WQ_val rfl gd0 (o_mul rfl rfl) rfl ?_
    refine WQ_val rfl gd0 (o_move (v := .pointer r1) (by exact e0)) rfl ?_
    refine WQ_val rfl gd0 (o_nilCheck (by exact (congrArg Value.pointer q7))) rfl ?_
    refine WQ_val rfl gd0 (o_fieldAddr 2 Try.underlying71 rfl Try.sizeOf3 rfl rfl rfl) rfl ?_
    obtain ⟨x12, hc13, h⟩ := h
    refine WQ_look (fun w => w.cell? (p6.add 2) = some (.int .i64 x12)) rfl gd0 (fun w hc => (o_load Try.isAgg3 rfl hc)) hc13 rfl ?_
    refine WQ_val rfl gd0 (o_sub rfl rfl) rfl ?_
    refine WQ_val rfl gd0 (o_assign (v := .int .i64 (IntKind.i64.wrap ((IntKind.i64.wrap (8 * (x_n9 : Int))) - x12))) rfl) rfl ?_
    refine WQ_nil ?_
    refine nrm ?_
    refine WC_ret ?_
    refine rtE ?_
    exact gv1 rfl rfl h

/-- (*spacecraft spacecraftref02.Reader).Left -/
def F48 (r1 : Option Addr) (w2 : World) (k : Value → World → Prop) : Prop :=
  ∃ (p3 : Addr), r1 = some p3 ∧ ∃ (x5 : Bool), w2.cell? (p3.add 2) = some (.bool x5) ∧ if x5 = true then
  k (.int .i64 0) w2
else
  ∃ (x_a8 : Option Addr) (x_n9 x_c10 : Nat), w2.drew.cell? p3 = some (.slice x_a8 x_n9 x_c10) ∧ ∃ (x12 : Int), w2.drew.cell? (p3.add 1) = some (.int .i64 x12) ∧ k (.int .i64 (IntKind.i64.wrap ((IntKind.i64.wrap (8 * (x_n9 : Int))) - x12))) w2.drew
set_option maxRecDepth 100000 in
set_option maxHeartbeats 2000000 in
theorem w48 (r1 : Option Addr) (w2 : World) (k : Value → World → Prop) (h : F48 r1 w2 k) : Does Try.prog 48 #[.pointer r1] w2 k := by
  refine enter 18 Try.func48 rfl rfl rfl ?_
  intro ρ hρ
  have e0 := hρ 0 _ rfl
  unfold F48 at h
  refine WC_seq ?_
  refine WC_region ?_
  refine WL_val gd0 ((o_assign (v := .int .i64 0) rfl) _) rfl ?_
  refine WL_nil ?_
  refine nrm ?_
  refine WC_seq ?_
  refine WC_seq ?_
  refine WC_region ?_
  refine WL_val gd0 ((o_move (v := .pointer r1) (by exact e0)) _) rfl ?_
  obtain ⟨p3, q4, h⟩ := h
  refine WL_val gd0 ((o_nilCheck (by exact (congrArg Value.pointer q4))) _) rfl ?_
  refine WL_val gd0 ((o_fieldAddr 2 Try.underlying62 rfl Try.sizeOf4 rfl rfl rfl) _) rfl ?_
  obtain ⟨x5, hc6, h⟩ := h
  refine WL_val gd0 (o_load Try.isAgg4 rfl hc6) rfl ?_
  refine WL_nil ?_
  refine nrm ?_
  refine WC_cond (t := x5) rfl (fun hb7 => ?_) (fun hb7 => ?_)
  · rw [if_pos hb7] at h
    refine WC_seq ?_
    refine WC_region ?_
    refine WL_val gd0 ((o_assign (v := .int .i64 0) rfl) _) rfl ?_
    refine WL_nil ?_
    refine nrm ?_
    refine WC_ret ?_
    refine rtT ?_
    refine rtE ?_
    exact gv1 rfl rfl h
  · rw [if_neg (neT hb7)] at h
    refine WC_skip ?_
    refine nrm ?_
    refine WC_seq ?_
    refine WC_draws [] (.look 0 (.look 1 (.look 2 (.look 3 (.look 4 (.look 5 (.look 6 (.look 7 (.look 8 (.look 9 (.look 10 (.look 11 .nil)))))))))))) Try.mixed (by kernel_rfl) ?_
    refine WQ_val rfl gd0 (o_move (v := .pointer r1) (by exact e0)) rfl ?_
    refine WQ_val rfl gd0 (o_nilCheck (by exact (congrArg Value.pointer q4))) rfl ?_
    refine WQ_val rfl gd0 (o_fieldAddr0 Try.underlying62 rfl Try.sizeOf22 rfl rfl rfl) rfl ?_
    obtain ⟨x_a8, x_n9, x_c10, hc11, h⟩ := h
    refine WQ_look (fun w => w.cell? p3 = some (.slice x_a8 x_n9 x_c10)) rfl gd0 (fun w hc => (o_load Try.isAgg22 rfl hc)) hc11 rfl ?_
    refine WQ_val rfl gd0 (o_len Try.underlying22 rfl) rfl ?_
    refine WQ_val rfl gd0 (o_mul rfl rfl) rfl ?_
    refine WQ_val rfl gd0 (o_move (v := .pointer r1) (by exact e0)) rfl ?_
    refine WQ_val rfl gd0 (o_nilCheck (by exact (congrArg Value.pointer q4))) rfl ?_
    refine WQ_val rfl gd0 (o_fieldAddr 1 Try.underlying62 rfl Try.sizeOf3 rfl rfl rfl) rfl ?_
    obtain ⟨x12, hc13, h⟩ := h
    refine WQ_look (fun w => w.cell? (p3.add 1) = some (.int .i64 x12)) rfl gd0 (fun w hc => (o_load Try.isAgg3 rfl hc)) hc13 rfl ?_
    refine WQ_val rfl gd0 (o_sub rfl rfl) rfl ?_
    refine WQ_val rfl gd0 (o_assign (v := .int .i64 (IntKind.i64.wrap ((IntKind.i64.wrap (8 * (x_n9 : Int))) - x12))) rfl) rfl ?_
    refine WQ_nil ?_
    refine nrm ?_
    refine WC_ret ?_
    refine rtE ?_
    exact gv1 rfl rfl h

def F49_b2 (t11 : Int) (c22 : Int) (t27 : Int) (w28 : World) (nx28 : Int → Int → World → Prop) (nx12 : Int → Int → World → Prop) : Prop :=
  if t27 < 8 then
  if (shr .u16 c22 15) = 1 then
    nx28 (bxor .u16 (shl .u16 c22 1) 4129) (IntKind.i64.wrap (t27 + 1)) w28
  else
    nx28 (shl .u16 c22 1) (IntKind.i64.wrap (t27 + 1)) w28
else
  nx12 c22 (IntKind.i64.wrap (t11 + 1)) w28
def F49_b1 (b_n3 : Nat) (b_a2 : Option Addr) (c7 : Int) (t11 : Int) (w12 : World) (nx12 : Int → Int → World → Prop) (k : Value → World → Prop) : Prop :=
  if t11 < (b_n3 : Int) then
  ∃ (p17 : Addr), b_a2 = some p17 ∧ (0 : Int) ≤ t11 ∧ t11 < (b_n3 : Int) ∧ ∃ (x19 : Int), w12.cell? (p17.add t11.toNat) = some (.int .u8 x19) ∧ LoopP (fun (s : Int × Int) w' nx' => F49_b2 t11 (s.1) (s.2) w' (fun x0 x1 w => nx' (x0, x1) w) nx12) ((bxor .u16 c7 (shl .u16 (IntKind.u16.wrap x19) 8)), 0) w12
else
  k (.int .u16 c7) w12
/-- spacecraft crc.Update16 -/
def F49 (c1 : Int) (b_a2 : Option Addr) (b_n3 : Nat) (b_c4 : Nat) (w5 : World) (k : Value → World → Prop) : Prop :=
  LoopP (fun (s : Int × Int) w' nx' => F49_b1 b_n3 b_a2 (s.1) (s.2) w' (fun x0 x1 w => nx' (x0, x1) w) k) (c1, 0) w5
set_option maxRecDepth 100000 in
set_option maxHeartbeats 2000000 in
theorem w49 (c1 : Int) (b_a2 : Option Addr) (b_n3 : Nat) (b_c4 : Nat) (w5 : World) (k : Value → World → Prop) (h : F49 c1 b_a2 b_n3 b_c4 w5 k) : Does Try.prog 49 #[.int .u16 c1, .slice b_a2 b_n3 b_c4] w5 k := by
  refine enter 32 Try.func49 rfl rfl rfl ?_
  intro ρ hρ
  have e0 := hρ 0 _ rfl
  have e1 := hρ 1 _ rfl
  unfold F49 at h
  refine WC_seq ?_
  refine WC_region ?_
  refine WL_val gd0 ((o_assign (v := .int .u16 0) rfl) _) rfl ?_
  refine WL_nil ?_
  refine nrm ?_
  refine WC_seq ?_
  refine WC_seq ?_
  refine WC_region ?_
  refine WL_val gd0 ((o_move (v := .slice b_a2 b_n3 b_c4) (by exact e1)) _) rfl ?_
  refine WL_val gd0 ((o_len Try.underlying22 rfl) _) rfl ?_
  refine WL_val gd0 ((o_move (v := .int .i64 0) rfl) _) rfl ?_
  refine WL_nil ?_
  refine nrm ?_
  refine WC_block ?_
  obtain ⟨J12, ⟨n12, h0⟩, hr12⟩ := h
  refine WC_loop (fun n ρ w' => ∃ (c7 t11 : Int), ρ 0 = .int .u16 c7 ∧ ρ 10 = .int .i64 t11 ∧ ρ 8 = .slice b_a2 b_n3 b_c4 ∧ ρ 9 = .int .i64 (b_n3 : Int) ∧ J12 n (c7, t11) w') ⟨n12, _, _, e0, rfl, rfl, rfl, h0⟩ ?_
  rintro n12 ρ w12 ⟨c7, t11, e0_6, e10_10, e8_8, e9_9, h⟩
  have h : F49_b1 b_n3 b_a2 c7 t11 w12 (fun x0 x1 w => ∃ m, m < n12 ∧ J12 m (x0, x1) w) k := hr12 n12 (c7, t11) w12 h
  unfold F49_b1 at h
  refine WC_seq ?_
  refine WC_region ?_
  refine WL_val gd0 ((o_lss (by exact e10_10) (by exact e9_9)) _) rfl ?_
  refine WL_nil ?_
  refine nrm ?_
  refine WC_seq ?_
  refine WC_cond (t := (decide (t11 < (b_n3 : Int)))) rfl (fun hb14 => ?_) (fun hb14 => ?_)
  · rw [if_pos (of_decide_eq_true hb14)] at h
    refine WC_skip ?_
    refine nrm ?_
    refine WC_seq ?_
    refine WC_block ?_
    refine WC_seq ?_
    refine WC_region ?_
    obtain ⟨p17, q18, h⟩ := h
    obtain ⟨l15, u16, h⟩ := h
    refine WL_val gd0 ((o_indexAddr1 Try.underlying22 Try.sizeOf5 (by exact (Eq.trans e8_8 (congrArg (fun z => Value.slice z b_n3 b_c4) q18))) (by exact e10_10) l15 u16) _) rfl ?_
    obtain ⟨x19, hc20, h⟩ := h
    refine WL_val gd0 (o_load Try.isAgg5 rfl hc20) rfl ?_
    refine WL_val gd0 ((o_assign (v := .int .u8 x19) rfl) _) rfl ?_
    refine WL_nil ?_
    refine nrm ?_
    refine WC_seq ?_
    refine WC_region ?_
    refine WL_val gd0 ((o_move (v := .int .u16 c7) (by exact e0_6)) _) rfl ?_
    refine WL_val gd0 ((o_move (v := .int .u8 x19) rfl) _) rfl ?_
    refine WL_val gd0 ((o_conv Try.underlying5 Try.underlying50 rfl) _) rfl ?_
    refine WL_val gd0 ((o_shl rfl rfl (by decide)) _) rfl ?_
    refine WL_val gd0 ((o_xor rfl rfl) _) rfl ?_
    refine WL_val gd0 ((o_assign (v := .int .u16 (bxor .u16 c7 (shl .u16 (IntKind.u16.wrap x19) 8))) rfl) _) rfl ?_
    refine WL_nil ?_
    refine nrm ?_
    refine WC_seq ?_
    refine WC_region ?_
    refine WL_val gd0 ((o_move (v := .int .i64 0) rfl) _) rfl ?_
    refine WL_nil ?_
    refine nrm ?_
    refine WC_block ?_
    obtain ⟨J28, ⟨n28, h0⟩, hr28⟩ := h
    refine WC_loop (fun n ρ w' => ∃ (c22 t27 : Int), ρ 0 = .int .u16 c22 ∧ ρ 19 = .int .i64 t27 ∧ ρ 8 = .slice b_a2 b_n3 b_c4 ∧ ρ 9 = .int .i64 (b_n3 : Int) ∧ ρ 10 = .int .i64 t11 ∧ J28 n (c22, t27) w') ⟨n28, _, _, rfl, rfl, e8_8, e9_9, e10_10, h0⟩ ?_
    rintro n28 ρ w28 ⟨c22, t27, e0_21, e19_26, e8_23, e9_24, e10_25, h⟩
    have h : F49_b2 t11 c22 t27 w28 (fun x0 x1 w => ∃ m, m < n28 ∧ J28 m (x0, x1) w) (fun x0 x1 w => ∃ m, m < n12 ∧ J12 m (x0, x1) w) := hr28 n28 (c22, t27) w28 h
    unfold F49_b2 at h
    refine WC_seq ?_
    refine WC_region ?_
    refine WL_val gd0 ((o_lss (by exact e19_26) rfl) _) rfl ?_
    refine WL_nil ?_
    refine nrm ?_
    refine WC_seq ?_
    refine WC_cond (t := (decide (t27 < 8))) rfl (fun hb30 => ?_) (fun hb30 => ?_)
    · rw [if_pos (of_decide_eq_true hb30)] at h
      refine WC_skip ?_
      refine nrm ?_
      refine WC_seq ?_
      refine WC_block ?_
      refine WC_seq ?_
      refine WC_region ?_
      refine WL_val gd0 ((o_move (v := .int .u16 c22) (by exact e0_21)) _) rfl ?_
      refine WL_val gd0 ((o_shr rfl rfl (by decide)) _) rfl ?_
      refine WL_val gd0 ((o_assign (v := .int .u16 (shr .u16 c22 15)) rfl) _) rfl ?_
      refine WL_nil ?_
      refine nrm ?_
      refine WC_seq ?_
      refine WC_region ?_
      refine WL_val gd0 ((o_move (v := .int .u16 c22) (by exact e0_21)) _) rfl ?_
      refine WL_val gd0 ((o_shl rfl rfl (by decide)) _) rfl ?_
      refine WL_val gd0 ((o_assign (v := .int .u16 (shl .u16 c22 1)) rfl) _) rfl ?_
      refine WL_nil ?_
      refine nrm ?_
      refine WC_seq ?_
      refine WC_region ?_
      refine WL_val gd0 ((o_move (v := .int .u16 (shr .u16 c22 15)) rfl) _) rfl ?_
      refine WL_val gd0 ((o_eql rfl rfl) _) rfl ?_
      refine WL_nil ?_
      refine nrm ?_
      refine WC_cond (t := (decide ((shr .u16 c22 15) = 1))) rfl (fun hb31 => ?_) (fun hb31 => ?_)
      · rw [if_pos (of_decide_eq_true hb31)] at h
        refine WC_region ?_
        refine WL_val gd0 ((o_move (v := .int .u16 (shl .u16 c22 1)) rfl) _) rfl ?_
        refine WL_val gd0 ((o_xor rfl rfl) _) rfl ?_
        refine WL_val gd0 ((o_assign (v := .int .u16 (bxor .u16 (shl .u16 c22 1) 4129)) rfl) _) rfl ?_
        refine WL_nil ?_
        refine nrmB ?_
        refine nrm ?_
        refine WC_region ?_
        refine WL_val gd0 ((o_add (by exact e19_26) rfl) _) rfl ?_
        refine WL_val gd0 ((o_move (v := .int .i64 (IntKind.i64.wrap (t27 + 1))) rfl) _) rfl ?_
        refine WL_nil ?_
        refine nrm ?_
        obtain ⟨m29, hm29, h⟩ := h
        exact ⟨m29, hm29, _, _, rfl, rfl, e8_23, e9_24, e10_25, h⟩
      · rw [if_neg (of_decide_eq_false hb31)] at h
        refine WC_skip ?_
        refine nrmB ?_
        refine nrm ?_
        refine WC_region ?_
        refine WL_val gd0 ((o_add (by exact e19_26) rfl) _) rfl ?_
        refine WL_val gd0 ((o_move (v := .int .i64 (IntKind.i64.wrap (t27 + 1))) rfl) _) rfl ?_
        refine WL_nil ?_
        refine nrm ?_
        obtain ⟨m29, hm29, h⟩ := h
        exact ⟨m29, hm29, _, _, rfl, rfl, e8_23, e9_24, e10_25, h⟩
    · rw [if_neg (of_decide_eq_false hb30)] at h
      refine WC_exit ?_
      refine exT ?_
      refine exT ?_
      refine exB ?_
      refine nrmB ?_
      refine nrm ?_
      refine WC_region ?_
      refine WL_val gd0 ((o_add (by exact e10_25) rfl) _) rfl ?_
      refine WL_val gd0 ((o_move (v := .int .i64 (IntKind.i64.wrap (t11 + 1))) rfl) _) rfl ?_
      refine WL_nil ?_
      refine nrm ?_
      obtain ⟨m13, hm13, h⟩ := h
      exact ⟨m13, hm13, _, _, e0_21, rfl, e8_23, e9_24, h⟩
  · rw [if_neg (of_decide_eq_false hb14)] at h
    refine WC_exit ?_
    refine exT ?_
    refine exT ?_
    refine exB ?_
    refine nrm ?_
    refine WC_seq ?_
    refine WC_region ?_
    refine WL_val gd0 ((o_move (v := .int .u16 c7) (by exact e0_6)) _) rfl ?_
    refine WL_val gd0 ((o_assign (v := .int .u16 c7) rfl) _) rfl ?_
    refine WL_nil ?_
    refine nrm ?_
    refine WC_ret ?_
    refine rtE ?_
    exact gv1 rfl rfl h


end Go.Proofs.Ytpioadkiomcdlaa
