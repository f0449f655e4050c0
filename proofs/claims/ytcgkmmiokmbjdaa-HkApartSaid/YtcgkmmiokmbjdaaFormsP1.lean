/-
  The forms of the functions, and their walks: written by a program of this claim (gen.py) off the elaborated translation.
-/
import Derived.Test.YtcgkmmiokmbjdaaProg
import Derived.Test.YtcgkmmiokmbjdaaBase
import Derived.KernelRfl
import Derived.Test.YtcgkmmiokmbjdaaFormsP0
namespace Go.Proofs.Ytcgkmmiokmbjdaa
open Go Go.Sh Go.Proofs
set_option linter.unusedVariables false
/-- spacecraft spacecraftlaw34.lives -/
def F12 (w1 : World) (k : Value → World → Prop) : Prop :=
  Does Try.prog 8 #[] w1 (fun v w2 => ∃ (s3 : Option Addr), v = .pointer s3 ∧ if (s3).isNone = true then
  k (.bool false) w2
else
  New w2 3 [.int .i64 5] (fun p5 w6 => Does Try.prog 9 #[.pointer s3, .int .i64 1, .int .i64 10, .slice (some p5) 1 1] w6 (fun v w7 => ∃ (a8 : Int), v = .int .i64 a8 ∧ Does Try.prog 13 #[.pointer s3, .int .i64 1, .bool true, .int .i64 3] w7 (fun v w9 => ∃ (b10 : Int), v = .int .i64 b10 ∧ Does Try.prog 14 #[.pointer s3, .int .i64 12, .pointer none] w9 (fun v w11 => ∃ (x_a12 : Option Addr) (x_n13 x_c14 : Nat), v = .slice x_a12 x_n13 x_c14 ∧ Does Try.prog 14 #[.pointer s3, .int .i64 13, .pointer none] w11 (fun v w15 => ∃ (x_a16 : Option Addr) (x_n17 x_c18 : Nat), v = .slice x_a16 x_n17 x_c18 ∧ Does Try.prog 14 #[.pointer s3, .int .i64 14, .pointer none] w15 (fun v w19 => ∃ (x_a20 : Option Addr) (x_n21 x_c22 : Nat), v = .slice x_a20 x_n21 x_c22 ∧ Does Try.prog 14 #[.pointer s3, .int .i64 30, .pointer none] w19 (fun v w23 => ∃ (x_a24 : Option Addr) (x_n25 x_c26 : Nat), v = .slice x_a24 x_n25 x_c26 ∧ Does Try.prog 14 #[.pointer s3, .int .i64 39, .pointer none] w23 (fun v w27 => ∃ (x_a28 : Option Addr) (x_n29 x_c30 : Nat), v = .slice x_a28 x_n29 x_c30 ∧ Does Try.prog 14 #[.pointer s3, .int .i64 40, .pointer none] w27 (fun v w31 => ∃ (x_a32 : Option Addr) (x_n33 x_c34 : Nat), v = .slice x_a32 x_n33 x_c34 ∧ Does Try.prog 10 #[.pointer s3, .int .i64 1] w31 (fun v w35 => ∃ (c36 : Int), v = .int .i64 c36 ∧ if a8 = 0 then
    if b10 = 0 then
      if (x_n13 : Int) = 0 then
        if (x_n17 : Int) = 1 then
          ∃ (p43 : Addr), x_a16 = some p43 ∧ (0 : Int) ≤ 0 ∧ 0 < (x_n17 : Int) ∧ ∃ (x45 : Int), w35.cell? (p43.add (((0 : Int).toNat) * 3)) = some (.int .i64 x45) ∧ if x45 = 1 then
            (0 : Int) ≤ 0 ∧ 0 < (x_n17 : Int) ∧ ∃ (x50 : Int), w35.cell? ((p43.add (((0 : Int).toNat) * 3)).add 1) = some (.int .i64 x50) ∧ if x50 = 13 then
              if (x_n21 : Int) = 0 then
                if (x_n25 : Int) = 1 then
                  ∃ (p57 : Addr), x_a24 = some p57 ∧ (0 : Int) ≤ 0 ∧ 0 < (x_n25 : Int) ∧ ∃ (x59 : Int), w35.cell? ((p57.add (((0 : Int).toNat) * 3)).add 1) = some (.int .i64 x59) ∧ if x59 = 30 then
                    if (x_n29 : Int) = 0 then
                      if (x_n33 : Int) = 1 then
                        if c36 = 12 then
                          New w35 3 [.int .i64 5] (fun p65 w66 => Does Try.prog 9 #[.pointer s3, .int .i64 2, .int .i64 0, .slice (some p65) 1 1] w66 (fun v w67 => ∃ (x68 : Int), v = .int .i64 x68 ∧ if x68 = 1 then
                            Does Try.prog 11 #[.pointer s3] w67 (fun v w70 => ∃ (x_a71 : Option Addr) (x_n72 x_c73 : Nat), v = .slice x_a71 x_n72 x_c73 ∧ k (.bool (decide ((x_n72 : Int) = 1))) w70)
                          else
                            k (.bool false) w67))
                        else
                          k (.bool false) w35
                      else
                        k (.bool false) w35
                    else
                      k (.bool false) w35
                  else
                    k (.bool false) w35
                else
                  k (.bool false) w35
              else
                k (.bool false) w35
            else
              k (.bool false) w35
          else
            k (.bool false) w35
        else
          k (.bool false) w35
      else
        k (.bool false) w35
    else
      k (.bool false) w35
  else
    k (.bool false) w35)))))))))))
set_option maxRecDepth 100000 in
set_option maxHeartbeats 2000000 in
theorem w12 (w1 : World) (k : Value → World → Prop) (h : F12 w1 k) : Does Try.prog 12 #[] w1 k := by
  refine enter 106 Try.func12 rfl rfl rfl ?_
  intro ρ hρ
  unfold F12 at h
  refine WC_seq ?_
  refine WC_region ?_
  refine WL_val gd0 ((o_assign (v := .bool false) rfl) _) rfl ?_
  refine WL_nil ?_
  refine nrm ?_
  refine WC_seq ?_
  refine WC_region ?_
  refine WL_call gd0 (o_call Try.call8 argNil _) rfl (h.mono ?_)
  rintro _ w2 ⟨s3, rfl, h⟩
  refine WL_val gd0 ((o_assign (v := .pointer s3) rfl) _) rfl ?_
  refine WL_nil ?_
  refine nrm ?_
  refine WC_seq ?_
  refine WC_seq ?_
  refine WC_region ?_
  refine WL_val gd0 ((o_move (v := .pointer s3) rfl) _) rfl ?_
  refine WL_val gd0 ((o_eqlPtrNil Try.underlying22 rfl rfl) _) rfl ?_
  refine WL_nil ?_
  refine nrm ?_
  refine WC_cond (t := ((s3).isNone)) rfl (fun hb4 => ?_) (fun hb4 => ?_)
  · rw [if_pos hb4] at h
    refine WC_seq ?_
    refine WC_region ?_
    refine WL_val gd0 ((o_assign (v := .bool false) rfl) _) rfl ?_
    refine WL_nil ?_
    refine nrm ?_
    refine WC_ret ?_
    refine rtT ?_
    refine rtE ?_
    exact gv1 rfl rfl h
  · rw [if_neg (neT hb4)] at h
    refine WC_skip ?_
    refine nrm ?_
    refine WC_seq ?_
    refine WC_region ?_
    refine WL_val gd0 ((o_move (v := .pointer s3) rfl) _) rfl ?_
    have h := New.out h
    refine WL_val gd0 (o_buildSlice (e := 3) (ps := [(0, .int .i64 5)]) (cs := [.int .i64 5]) (partCons rfl partNil) (fun w => by kernel_rfl)) rfl ?_
    generalize hp5 : fresh w2 = p5 at h ⊢
    generalize hw6 : push w2 3 [.int .i64 5] = w6 at h ⊢
    try dsimp only at h
    refine WL_call gd0 (o_call Try.call9 (argCons rfl (argCons rfl (argCons rfl (argCons rfl argNil)))) _) rfl (h.mono ?_)
    rintro _ w7 ⟨a8, rfl, h⟩
    refine WL_val gd0 ((o_assign (v := .int .i64 a8) rfl) _) rfl ?_
    refine WL_nil ?_
    refine nrm ?_
    refine WC_seq ?_
    refine WC_region ?_
    refine WL_val gd0 ((o_move (v := .pointer s3) rfl) _) rfl ?_
    refine WL_call gd0 (o_call Try.call13 (argCons rfl (argCons rfl (argCons rfl (argCons rfl argNil)))) _) rfl (h.mono ?_)
    rintro _ w9 ⟨b10, rfl, h⟩
    refine WL_val gd0 ((o_assign (v := .int .i64 b10) rfl) _) rfl ?_
    refine WL_nil ?_
    refine nrm ?_
    refine WC_seq ?_
    refine WC_region ?_
    refine WL_val gd0 ((o_move (v := .pointer s3) rfl) _) rfl ?_
    refine WL_call gd0 (o_call Try.call14 (argCons rfl (argCons rfl (argCons rfl argNil))) _) rfl (h.mono ?_)
    rintro _ w11 ⟨x_a12, x_n13, x_c14, rfl, h⟩
    refine WL_val gd0 ((o_move (v := .pointer s3) rfl) _) rfl ?_
    refine WL_call gd0 (o_call Try.call14 (argCons rfl (argCons rfl (argCons rfl argNil))) _) rfl (h.mono ?_)
    rintro _ w15 ⟨x_a16, x_n17, x_c18, rfl, h⟩
    refine WL_val gd0 ((o_move (v := .pointer s3) rfl) _) rfl ?_
    refine WL_call gd0 (o_call Try.call14 (argCons rfl (argCons rfl (argCons rfl argNil))) _) rfl (h.mono ?_)
    rintro _ w19 ⟨x_a20, x_n21, x_c22, rfl, h⟩
    refine WL_val gd0 ((o_assign (v := .slice x_a12 x_n13 x_c14) rfl) _) rfl ?_
    refine WL_val gd0 ((o_assign (v := .slice x_a16 x_n17 x_c18) rfl) _) rfl ?_
    refine WL_val gd0 ((o_assign (v := .slice x_a20 x_n21 x_c22) rfl) _) rfl ?_
    refine WL_nil ?_
    refine nrm ?_
    refine WC_seq ?_
    refine WC_region ?_
    refine WL_val gd0 ((o_move (v := .pointer s3) rfl) _) rfl ?_
    refine WL_call gd0 (o_call Try.call14 (argCons rfl (argCons rfl (argCons rfl argNil))) _) rfl (h.mono ?_)
    rintro _ w23 ⟨x_a24, x_n25, x_c26, rfl, h⟩
    refine WL_val gd0 ((o_move (v := .pointer s3) rfl) _) rfl ?_
    refine WL_call gd0 (o_call Try.call14 (argCons rfl (argCons rfl (argCons rfl argNil))) _) rfl (h.mono ?_)
    rintro _ w27 ⟨x_a28, x_n29, x_c30, rfl, h⟩
    refine WL_val gd0 ((o_move (v := .pointer s3) rfl) _) rfl ?_
    refine WL_call gd0 (o_call Try.call14 (argCons rfl (argCons rfl (argCons rfl argNil))) _) rfl (h.mono ?_)
    rintro _ w31 ⟨x_a32, x_n33, x_c34, rfl, h⟩
    refine WL_val gd0 ((o_assign (v := .slice x_a24 x_n25 x_c26) rfl) _) rfl ?_
    refine WL_val gd0 ((o_assign (v := .slice x_a28 x_n29 x_c30) rfl) _) rfl ?_
    refine WL_val gd0 ((o_assign (v := .slice x_a32 x_n33 x_c34) rfl) _) rfl ?_
    refine WL_nil ?_
    refine nrm ?_
    refine WC_seq ?_
    refine WC_region ?_
    refine WL_val gd0 ((o_move (v := .pointer s3) rfl) _) rfl ?_
    refine WL_call gd0 (o_call Try.call10 (argCons rfl (argCons rfl argNil)) _) rfl (h.mono ?_)
    rintro _ w35 ⟨c36, rfl, h⟩
    refine WL_val gd0 ((o_assign (v := .int .i64 c36) rfl) _) rfl ?_
    refine WL_nil ?_
    refine nrm ?_
    refine WC_seq ?_
    refine WC_region ?_
    refine WL_val gd0 ((o_move (v := .int .i64 a8) rfl) _) rfl ?_
    refine WL_val gd0 ((o_eql rfl rfl) _) rfl ?_
    refine WL_val gd0 ((o_move (v := .bool (decide (a8 = 0))) rfl) _) rfl ?_
    refine bsplit (decide (a8 = 0)) (fun hb37 => ?_) (fun hb37 => ?_)
    · rw [if_pos (of_decide_eq_true hb37)] at h
      refine WL_val (gdY (b := (decide (a8 = 0))) 35 rfl rfl hb37) ((o_move (v := .int .i64 b10) rfl) _) rfl ?_
      refine WL_val (gdY (b := (decide (a8 = 0))) 35 rfl rfl hb37) ((o_eql rfl rfl) _) rfl ?_
      refine WL_val gd0 ((o_pickT (v := .bool (decide (b10 = 0))) rfl hb37 rfl) _) rfl ?_
      refine WL_val gd0 ((o_move (v := .bool (decide (b10 = 0))) rfl) _) rfl ?_
      refine bsplit (decide (b10 = 0)) (fun hb38 => ?_) (fun hb38 => ?_)
      · rw [if_pos (of_decide_eq_true hb38)] at h
        refine WL_val (gdY (b := (decide (b10 = 0))) 39 rfl rfl hb38) ((o_move (v := .slice x_a12 x_n13 x_c14) rfl) _) rfl ?_
        refine WL_val (gdY (b := (decide (b10 = 0))) 39 rfl rfl hb38) ((o_len Try.underlying36 rfl) _) rfl ?_
        refine WL_val (gdY (b := (decide (b10 = 0))) 39 rfl rfl hb38) ((o_eql rfl rfl) _) rfl ?_
        refine WL_val gd0 ((o_pickT (v := .bool (decide ((x_n13 : Int) = 0))) rfl hb38 rfl) _) rfl ?_
        refine WL_val gd0 ((o_move (v := .bool (decide ((x_n13 : Int) = 0))) rfl) _) rfl ?_
        refine bsplit (decide ((x_n13 : Int) = 0)) (fun hb39 => ?_) (fun hb39 => ?_)
        · rw [if_pos (of_decide_eq_true hb39)] at h
          refine WL_val (gdY (b := (decide ((x_n13 : Int) = 0))) 44 rfl rfl hb39) ((o_move (v := .slice x_a16 x_n17 x_c18) rfl) _) rfl ?_
          refine WL_val (gdY (b := (decide ((x_n13 : Int) = 0))) 44 rfl rfl hb39) ((o_len Try.underlying36 rfl) _) rfl ?_
          refine WL_val (gdY (b := (decide ((x_n13 : Int) = 0))) 44 rfl rfl hb39) ((o_eql rfl rfl) _) rfl ?_
          refine WL_val gd0 ((o_pickT (v := .bool (decide ((x_n17 : Int) = 1))) rfl hb39 rfl) _) rfl ?_
          refine WL_val gd0 ((o_move (v := .bool (decide ((x_n17 : Int) = 1))) rfl) _) rfl ?_
          refine bsplit (decide ((x_n17 : Int) = 1)) (fun hb40 => ?_) (fun hb40 => ?_)
          · rw [if_pos (of_decide_eq_true hb40)] at h
            refine WL_val (gdY (b := (decide ((x_n17 : Int) = 1))) 49 rfl rfl hb40) ((o_move (v := .slice x_a16 x_n17 x_c18) rfl) _) rfl ?_
            obtain ⟨p43, q44, h⟩ := h
            obtain ⟨l41, u42, h⟩ := h
            refine WL_val (gdY (b := (decide ((x_n17 : Int) = 1))) 49 rfl rfl hb40) ((o_indexAddr Try.underlying36 Try.sizeOf40 (by exact (congrArg (fun z => Value.slice z x_n17 x_c18) q44)) rfl l41 u42) _) rfl ?_
            refine WL_val (gdY (b := (decide ((x_n17 : Int) = 1))) 49 rfl rfl hb40) ((o_fieldAddr0 Try.underlying40 rfl Try.sizeOf3 rfl rfl rfl) _) rfl ?_
            obtain ⟨x45, hc46, h⟩ := h
            refine WL_val (gdY (b := (decide ((x_n17 : Int) = 1))) 49 rfl rfl hb40) (o_load Try.isAgg3 rfl hc46) rfl ?_
            refine WL_val (gdY (b := (decide ((x_n17 : Int) = 1))) 49 rfl rfl hb40) ((o_eql rfl rfl) _) rfl ?_
            refine WL_val gd0 ((o_pickT (v := .bool (decide (x45 = 1))) rfl hb40 rfl) _) rfl ?_
            refine WL_val gd0 ((o_move (v := .bool (decide (x45 = 1))) rfl) _) rfl ?_
            refine bsplit (decide (x45 = 1)) (fun hb47 => ?_) (fun hb47 => ?_)
            · rw [if_pos (of_decide_eq_true hb47)] at h
              refine WL_val (gdY (b := (decide (x45 = 1))) 56 rfl rfl hb47) ((o_move (v := .slice x_a16 x_n17 x_c18) rfl) _) rfl ?_
              obtain ⟨l48, u49, h⟩ := h
              refine WL_val (gdY (b := (decide (x45 = 1))) 56 rfl rfl hb47) ((o_indexAddr Try.underlying36 Try.sizeOf40 (by exact (congrArg (fun z => Value.slice z x_n17 x_c18) q44)) rfl l48 u49) _) rfl ?_
              refine WL_val (gdY (b := (decide (x45 = 1))) 56 rfl rfl hb47) ((o_fieldAddr 1 Try.underlying40 rfl Try.sizeOf3 rfl rfl rfl) _) rfl ?_
              obtain ⟨x50, hc51, h⟩ := h
              refine WL_val (gdY (b := (decide (x45 = 1))) 56 rfl rfl hb47) (o_load Try.isAgg3 rfl hc51) rfl ?_
              refine WL_val (gdY (b := (decide (x45 = 1))) 56 rfl rfl hb47) ((o_eql rfl rfl) _) rfl ?_
              refine WL_val gd0 ((o_pickT (v := .bool (decide (x50 = 13))) rfl hb47 rfl) _) rfl ?_
              refine WL_val gd0 ((o_move (v := .bool (decide (x50 = 13))) rfl) _) rfl ?_
              refine bsplit (decide (x50 = 13)) (fun hb52 => ?_) (fun hb52 => ?_)
              · rw [if_pos (of_decide_eq_true hb52)] at h
                refine WL_val (gdY (b := (decide (x50 = 13))) 63 rfl rfl hb52) ((o_move (v := .slice x_a20 x_n21 x_c22) rfl) _) rfl ?_
                refine WL_val (gdY (b := (decide (x50 = 13))) 63 rfl rfl hb52) ((o_len Try.underlying36 rfl) _) rfl ?_
                refine WL_val (gdY (b := (decide (x50 = 13))) 63 rfl rfl hb52) ((o_eql rfl rfl) _) rfl ?_
                refine WL_val gd0 ((o_pickT (v := .bool (decide ((x_n21 : Int) = 0))) rfl hb52 rfl) _) rfl ?_
                refine WL_val gd0 ((o_move (v := .bool (decide ((x_n21 : Int) = 0))) rfl) _) rfl ?_
                refine bsplit (decide ((x_n21 : Int) = 0)) (fun hb53 => ?_) (fun hb53 => ?_)
                · rw [if_pos (of_decide_eq_true hb53)] at h
                  refine WL_val (gdY (b := (decide ((x_n21 : Int) = 0))) 68 rfl rfl hb53) ((o_move (v := .slice x_a24 x_n25 x_c26) rfl) _) rfl ?_
                  refine WL_val (gdY (b := (decide ((x_n21 : Int) = 0))) 68 rfl rfl hb53) ((o_len Try.underlying36 rfl) _) rfl ?_
                  refine WL_val (gdY (b := (decide ((x_n21 : Int) = 0))) 68 rfl rfl hb53) ((o_eql rfl rfl) _) rfl ?_
                  refine WL_val gd0 ((o_pickT (v := .bool (decide ((x_n25 : Int) = 1))) rfl hb53 rfl) _) rfl ?_
                  refine WL_val gd0 ((o_move (v := .bool (decide ((x_n25 : Int) = 1))) rfl) _) rfl ?_
                  refine bsplit (decide ((x_n25 : Int) = 1)) (fun hb54 => ?_) (fun hb54 => ?_)
                  · rw [if_pos (of_decide_eq_true hb54)] at h
                    refine WL_val (gdY (b := (decide ((x_n25 : Int) = 1))) 73 rfl rfl hb54) ((o_move (v := .slice x_a24 x_n25 x_c26) rfl) _) rfl ?_
                    obtain ⟨p57, q58, h⟩ := h
                    obtain ⟨l55, u56, h⟩ := h
                    refine WL_val (gdY (b := (decide ((x_n25 : Int) = 1))) 73 rfl rfl hb54) ((o_indexAddr Try.underlying36 Try.sizeOf40 (by exact (congrArg (fun z => Value.slice z x_n25 x_c26) q58)) rfl l55 u56) _) rfl ?_
                    refine WL_val (gdY (b := (decide ((x_n25 : Int) = 1))) 73 rfl rfl hb54) ((o_fieldAddr 1 Try.underlying40 rfl Try.sizeOf3 rfl rfl rfl) _) rfl ?_
                    obtain ⟨x59, hc60, h⟩ := h
                    refine WL_val (gdY (b := (decide ((x_n25 : Int) = 1))) 73 rfl rfl hb54) (o_load Try.isAgg3 rfl hc60) rfl ?_
                    refine WL_val (gdY (b := (decide ((x_n25 : Int) = 1))) 73 rfl rfl hb54) ((o_eql rfl rfl) _) rfl ?_
                    refine WL_val gd0 ((o_pickT (v := .bool (decide (x59 = 30))) rfl hb54 rfl) _) rfl ?_
                    refine WL_val gd0 ((o_move (v := .bool (decide (x59 = 30))) rfl) _) rfl ?_
                    refine bsplit (decide (x59 = 30)) (fun hb61 => ?_) (fun hb61 => ?_)
                    · rw [if_pos (of_decide_eq_true hb61)] at h
                      refine WL_val (gdY (b := (decide (x59 = 30))) 80 rfl rfl hb61) ((o_move (v := .slice x_a28 x_n29 x_c30) rfl) _) rfl ?_
                      refine WL_val (gdY (b := (decide (x59 = 30))) 80 rfl rfl hb61) ((o_len Try.underlying36 rfl) _) rfl ?_
                      refine WL_val (gdY (b := (decide (x59 = 30))) 80 rfl rfl hb61) ((o_eql rfl rfl) _) rfl ?_
                      refine WL_val gd0 ((o_pickT (v := .bool (decide ((x_n29 : Int) = 0))) rfl hb61 rfl) _) rfl ?_
                      refine WL_val gd0 ((o_move (v := .bool (decide ((x_n29 : Int) = 0))) rfl) _) rfl ?_
                      refine bsplit (decide ((x_n29 : Int) = 0)) (fun hb62 => ?_) (fun hb62 => ?_)
                      · rw [if_pos (of_decide_eq_true hb62)] at h
                        refine WL_val (gdY (b := (decide ((x_n29 : Int) = 0))) 85 rfl rfl hb62) ((o_move (v := .slice x_a32 x_n33 x_c34) rfl) _) rfl ?_
                        refine WL_val (gdY (b := (decide ((x_n29 : Int) = 0))) 85 rfl rfl hb62) ((o_len Try.underlying36 rfl) _) rfl ?_
                        refine WL_val (gdY (b := (decide ((x_n29 : Int) = 0))) 85 rfl rfl hb62) ((o_eql rfl rfl) _) rfl ?_
                        refine WL_val gd0 ((o_pickT (v := .bool (decide ((x_n33 : Int) = 1))) rfl hb62 rfl) _) rfl ?_
                        refine WL_val gd0 ((o_move (v := .bool (decide ((x_n33 : Int) = 1))) rfl) _) rfl ?_
                        refine bsplit (decide ((x_n33 : Int) = 1)) (fun hb63 => ?_) (fun hb63 => ?_)
                        · rw [if_pos (of_decide_eq_true hb63)] at h
                          refine WL_val (gdY (b := (decide ((x_n33 : Int) = 1))) 90 rfl rfl hb63) ((o_move (v := .int .i64 c36) rfl) _) rfl ?_
                          refine WL_val (gdY (b := (decide ((x_n33 : Int) = 1))) 90 rfl rfl hb63) ((o_eql rfl rfl) _) rfl ?_
                          refine WL_val gd0 ((o_pickT (v := .bool (decide (c36 = 12))) rfl hb63 rfl) _) rfl ?_
                          refine WL_val gd0 ((o_move (v := .bool (decide (c36 = 12))) rfl) _) rfl ?_
                          refine bsplit (decide (c36 = 12)) (fun hb64 => ?_) (fun hb64 => ?_)
                          · rw [if_pos (of_decide_eq_true hb64)] at h
                            refine WL_val (gdY (b := (decide (c36 = 12))) 94 rfl rfl hb64) ((o_move (v := .pointer s3) rfl) _) rfl ?_
                            have h := New.out h
                            refine WL_val (gdY (b := (decide (c36 = 12))) 94 rfl rfl hb64) (o_buildSlice (e := 3) (ps := [(0, .int .i64 5)]) (cs := [.int .i64 5]) (partCons rfl partNil) (fun w => by kernel_rfl)) rfl ?_
                            generalize hp65 : fresh w35 = p65 at h ⊢
                            generalize hw66 : push w35 3 [.int .i64 5] = w66 at h ⊢
                            try dsimp only at h
                            refine WL_call (gdY (b := (decide (c36 = 12))) 94 rfl rfl hb64) (o_call Try.call9 (argCons rfl (argCons rfl (argCons rfl (argCons rfl argNil)))) _) rfl (h.mono ?_)
                            rintro _ w67 ⟨x68, rfl, h⟩
                            refine WL_val (gdY (b := (decide (c36 = 12))) 94 rfl rfl hb64) ((o_eql rfl rfl) _) rfl ?_
                            refine WL_val gd0 ((o_pickT (v := .bool (decide (x68 = 1))) rfl hb64 rfl) _) rfl ?_
                            refine WL_val gd0 ((o_move (v := .bool (decide (x68 = 1))) rfl) _) rfl ?_
                            refine bsplit (decide (x68 = 1)) (fun hb69 => ?_) (fun hb69 => ?_)
                            · rw [if_pos (of_decide_eq_true hb69)] at h
                              refine WL_val (gdY (b := (decide (x68 = 1))) 100 rfl rfl hb69) ((o_move (v := .pointer s3) rfl) _) rfl ?_
                              refine WL_call (gdY (b := (decide (x68 = 1))) 100 rfl rfl hb69) (o_call Try.call11 (argCons rfl argNil) _) rfl (h.mono ?_)
                              rintro _ w70 ⟨x_a71, x_n72, x_c73, rfl, h⟩
                              refine WL_val (gdY (b := (decide (x68 = 1))) 100 rfl rfl hb69) ((o_len Try.underlying28 rfl) _) rfl ?_
                              refine WL_val (gdY (b := (decide (x68 = 1))) 100 rfl rfl hb69) ((o_eql rfl rfl) _) rfl ?_
                              refine WL_val gd0 ((o_pickT (v := .bool (decide ((x_n72 : Int) = 1))) rfl hb69 rfl) _) rfl ?_
                              refine WL_val gd0 ((o_assign (v := .bool (decide ((x_n72 : Int) = 1))) rfl) _) rfl ?_
                              refine WL_nil ?_
                              refine nrm ?_
                              refine WC_ret ?_
                              refine rtE ?_
                              exact gv1 rfl rfl h
                            · rw [if_neg (of_decide_eq_false hb69)] at h
                              refine WL_skip (gdN (b := (decide (x68 = 1))) 100 rfl rfl hb69) rfl ?_
                              refine WL_skip (gdN (b := (decide (x68 = 1))) 100 rfl rfl hb69) rfl ?_
                              refine WL_skip (gdN (b := (decide (x68 = 1))) 100 rfl rfl hb69) rfl ?_
                              refine WL_skip (gdN (b := (decide (x68 = 1))) 100 rfl rfl hb69) rfl ?_
                              refine WL_val gd0 ((o_pickF (v := .bool false) rfl hb69 rfl) _) rfl ?_
                              refine WL_val gd0 ((o_assign (v := .bool false) rfl) _) rfl ?_
                              refine WL_nil ?_
                              refine nrm ?_
                              refine WC_ret ?_
                              refine rtE ?_
                              exact gv1 rfl rfl h
                          · rw [if_neg (of_decide_eq_false hb64)] at h
                            refine WL_skip (gdN (b := (decide (c36 = 12))) 94 rfl rfl hb64) rfl ?_
                            refine WL_skip (gdN (b := (decide (c36 = 12))) 94 rfl rfl hb64) rfl ?_
                            refine WL_skip (gdN (b := (decide (c36 = 12))) 94 rfl rfl hb64) rfl ?_
                            refine WL_skip (gdN (b := (decide (c36 = 12))) 94 rfl rfl hb64) rfl ?_
                            refine WL_val gd0 ((o_pickF (v := .bool false) rfl hb64 rfl) _) rfl ?_
                            refine WL_val gd0 ((o_move (v := .bool false) rfl) _) rfl ?_
                            refine WL_skip (gdN (b := false) 100 rfl rfl rfl) rfl ?_
                            refine WL_skip (gdN (b := false) 100 rfl rfl rfl) rfl ?_
                            refine WL_skip (gdN (b := false) 100 rfl rfl rfl) rfl ?_
                            refine WL_skip (gdN (b := false) 100 rfl rfl rfl) rfl ?_
                            refine WL_val gd0 ((o_pickF (v := .bool false) rfl rfl rfl) _) rfl ?_
                            refine WL_val gd0 ((o_assign (v := .bool false) rfl) _) rfl ?_
                            refine WL_nil ?_
                            refine nrm ?_
                            refine WC_ret ?_
                            refine rtE ?_
                            exact gv1 rfl rfl h
                        · rw [if_neg (of_decide_eq_false hb63)] at h
                          refine WL_skip (gdN (b := (decide ((x_n33 : Int) = 1))) 90 rfl rfl hb63) rfl ?_
                          refine WL_skip (gdN (b := (decide ((x_n33 : Int) = 1))) 90 rfl rfl hb63) rfl ?_
                          refine WL_val gd0 ((o_pickF (v := .bool false) rfl hb63 rfl) _) rfl ?_
                          refine WL_val gd0 ((o_move (v := .bool false) rfl) _) rfl ?_
                          refine WL_skip (gdN (b := false) 94 rfl rfl rfl) rfl ?_
                          refine WL_skip (gdN (b := false) 94 rfl rfl rfl) rfl ?_
                          refine WL_skip (gdN (b := false) 94 rfl rfl rfl) rfl ?_
                          refine WL_skip (gdN (b := false) 94 rfl rfl rfl) rfl ?_
                          refine WL_val gd0 ((o_pickF (v := .bool false) rfl rfl rfl) _) rfl ?_
                          refine WL_val gd0 ((o_move (v := .bool false) rfl) _) rfl ?_
                          refine WL_skip (gdN (b := false) 100 rfl rfl rfl) rfl ?_
                          refine WL_skip (gdN (b := false) 100 rfl rfl rfl) rfl ?_
                          refine WL_skip (gdN (b := false) 100 rfl rfl rfl) rfl ?_
                          refine WL_skip (gdN (b := false) 100 rfl rfl rfl) rfl ?_
                          refine WL_val gd0 ((o_pickF (v := .bool false) rfl rfl rfl) _) rfl ?_
                          refine WL_val gd0 ((o_assign (v := .bool false) rfl) _) rfl ?_
                          refine WL_nil ?_
                          refine nrm ?_
                          refine WC_ret ?_
                          refine rtE ?_
                          exact gv1 rfl rfl h
                      · rw [if_neg (of_decide_eq_false hb62)] at h
                        refine WL_skip (gdN (b := (decide ((x_n29 : Int) = 0))) 85 rfl rfl hb62) rfl ?_
                        refine WL_skip (gdN (b := (decide ((x_n29 : Int) = 0))) 85 rfl rfl hb62) rfl ?_
                        refine WL_skip (gdN (b := (decide ((x_n29 : Int) = 0))) 85 rfl rfl hb62) rfl ?_
                        refine WL_val gd0 ((o_pickF (v := .bool false) rfl hb62 rfl) _) rfl ?_
                        refine WL_val gd0 ((o_move (v := .bool false) rfl) _) rfl ?_
                        refine WL_skip (gdN (b := false) 90 rfl rfl rfl) rfl ?_
                        refine WL_skip (gdN (b := false) 90 rfl rfl rfl) rfl ?_
                        refine WL_val gd0 ((o_pickF (v := .bool false) rfl rfl rfl) _) rfl ?_
                        refine WL_val gd0 ((o_move (v := .bool false) rfl) _) rfl ?_
                        refine WL_skip (gdN (b := false) 94 rfl rfl rfl) rfl ?_
                        refine WL_skip (gdN (b := false) 94 rfl rfl rfl) rfl ?_
                        refine WL_skip (gdN (b := false) 94 rfl rfl rfl) rfl ?_
                        refine WL_skip (gdN (b := false) 94 rfl rfl rfl) rfl ?_
                        refine WL_val gd0 ((o_pickF (v := .bool false) rfl rfl rfl) _) rfl ?_
                        refine WL_val gd0 ((o_move (v := .bool false) rfl) _) rfl ?_
                        refine WL_skip (gdN (b := false) 100 rfl rfl rfl) rfl ?_
                        refine WL_skip (gdN (b := false) 100 rfl rfl rfl) rfl ?_
                        refine WL_skip (gdN (b := false) 100 rfl rfl rfl) rfl ?_
                        refine WL_skip (gdN (b := false) 100 rfl rfl rfl) rfl ?_
                        refine WL_val gd0 ((o_pickF (v := .bool false) rfl rfl rfl) _) rfl ?_
                        refine WL_val gd0 ((o_assign (v := .bool false) rfl) _) rfl ?_
                        refine WL_nil ?_
                        refine nrm ?_
                        refine WC_ret ?_
                        refine rtE ?_
                        exact gv1 rfl rfl h
                    · rw [if_neg (of_decide_eq_false hb61)] at h
                      refine WL_skip (gdN (b := (decide (x59 = 30))) 80 rfl rfl hb61) rfl ?_
                      refine WL_skip (gdN (b := (decide (x59 = 30))) 80 rfl rfl hb61) rfl ?_
                      refine WL_skip (gdN (b := (decide (x59 = 30))) 80 rfl rfl hb61) rfl ?_
                      refine WL_val gd0 ((o_pickF (v := .bool false) rfl hb61 rfl) _) rfl ?_
                      refine WL_val gd0 ((o_move (v := .bool false) rfl) _) rfl ?_
                      refine WL_skip (gdN (b := false) 85 rfl rfl rfl) rfl ?_
                      refine WL_skip (gdN (b := false) 85 rfl rfl rfl) rfl ?_
                      refine WL_skip (gdN (b := false) 85 rfl rfl rfl) rfl ?_
                      refine WL_val gd0 ((o_pickF (v := .bool false) rfl rfl rfl) _) rfl ?_
                      refine WL_val gd0 ((o_move (v := .bool false) rfl) _) rfl ?_
                      refine WL_skip (gdN (b := false) 90 rfl rfl rfl) rfl ?_
                      refine WL_skip (gdN (b := false) 90 rfl rfl rfl) rfl ?_
                      refine WL_val gd0 ((o_pickF (v := .bool false) rfl rfl rfl) _) rfl ?_
                      refine WL_val gd0 ((o_move (v := .bool false) rfl) _) rfl ?_
                      refine WL_skip (gdN (b := false) 94 rfl rfl rfl) rfl ?_
                      refine WL_skip (gdN (b := false) 94 rfl rfl rfl) rfl ?_
                      refine WL_skip (gdN (b := false) 94 rfl rfl rfl) rfl ?_
                      refine WL_skip (gdN (b := false) 94 rfl rfl rfl) rfl ?_
                      refine WL_val gd0 ((o_pickF (v := .bool false) rfl rfl rfl) _) rfl ?_
                      refine WL_val gd0 ((o_move (v := .bool false) rfl) _) rfl ?_
                      refine WL_skip (gdN (b := false) 100 rfl rfl rfl) rfl ?_
                      refine WL_skip (gdN (b := false) 100 rfl rfl rfl) rfl ?_
                      refine WL_skip (gdN (b := false) 100 rfl rfl rfl) rfl ?_
                      refine WL_skip (gdN (b := false) 100 rfl rfl rfl) rfl ?_
                      refine WL_val gd0 ((o_pickF (v := .bool false) rfl rfl rfl) _) rfl ?_
                      refine WL_val gd0 ((o_assign (v := .bool false) rfl) _) rfl ?_
                      refine WL_nil ?_
                      refine nrm ?_
                      refine WC_ret ?_
                      refine rtE ?_
                      exact gv1 rfl rfl h
                  · rw [if_neg (of_decide_eq_false hb54)] at h
                    refine WL_skip (gdN (b := (decide ((x_n25 : Int) = 1))) 73 rfl rfl hb54) rfl ?_
                    refine WL_skip (gdN (b := (decide ((x_n25 : Int) = 1))) 73 rfl rfl hb54) rfl ?_
                    refine WL_skip (gdN (b := (decide ((x_n25 : Int) = 1))) 73 rfl rfl hb54) rfl ?_
                    refine WL_skip (gdN (b := (decide ((x_n25 : Int) = 1))) 73 rfl rfl hb54) rfl ?_
                    refine WL_skip (gdN (b := (decide ((x_n25 : Int) = 1))) 73 rfl rfl hb54) rfl ?_
                    refine WL_val gd0 ((o_pickF (v := .bool false) rfl hb54 rfl) _) rfl ?_
                    refine WL_val gd0 ((o_move (v := .bool false) rfl) _) rfl ?_
                    refine WL_skip (gdN (b := false) 80 rfl rfl rfl) rfl ?_
                    refine WL_skip (gdN (b := false) 80 rfl rfl rfl) rfl ?_
                    refine WL_skip (gdN (b := false) 80 rfl rfl rfl) rfl ?_
                    refine WL_val gd0 ((o_pickF (v := .bool false) rfl rfl rfl) _) rfl ?_
                    refine WL_val gd0 ((o_move (v := .bool false) rfl) _) rfl ?_
                    refine WL_skip (gdN (b := false) 85 rfl rfl rfl) rfl ?_
                    refine WL_skip (gdN (b := false) 85 rfl rfl rfl) rfl ?_
                    refine WL_skip (gdN (b := false) 85 rfl rfl rfl) rfl ?_
                    refine WL_val gd0 ((o_pickF (v := .bool false) rfl rfl rfl) _) rfl ?_
                    refine WL_val gd0 ((o_move (v := .bool false) rfl) _) rfl ?_
                    refine WL_skip (gdN (b := false) 90 rfl rfl rfl) rfl ?_
                    refine WL_skip (gdN (b := false) 90 rfl rfl rfl) rfl ?_
                    refine WL_val gd0 ((o_pickF (v := .bool false) rfl rfl rfl) _) rfl ?_
                    refine WL_val gd0 ((o_move (v := .bool false) rfl) _) rfl ?_
                    refine WL_skip (gdN (b := false) 94 rfl rfl rfl) rfl ?_
                    refine WL_skip (gdN (b := false) 94 rfl rfl rfl) rfl ?_
                    refine WL_skip (gdN (b := false) 94 rfl rfl rfl) rfl ?_
                    refine WL_skip (gdN (b := false) 94 rfl rfl rfl) rfl ?_
                    refine WL_val gd0 ((o_pickF (v := .bool false) rfl rfl rfl) _) rfl ?_
                    refine WL_val gd0 ((o_move (v := .bool false) rfl) _) rfl ?_
                    refine WL_skip (gdN (b := false) 100 rfl rfl rfl) rfl ?_
                    refine WL_skip (gdN (b := false) 100 rfl rfl rfl) rfl ?_
                    refine WL_skip (gdN (b := false) 100 rfl rfl rfl) rfl ?_
                    refine WL_skip (gdN (b := false) 100 rfl rfl rfl) rfl ?_
                    refine WL_val gd0 ((o_pickF (v := .bool false) rfl rfl rfl) _) rfl ?_
                    refine WL_val gd0 ((o_assign (v := .bool false) rfl) _) rfl ?_
                    refine WL_nil ?_
                    refine nrm ?_
                    refine WC_ret ?_
                    refine rtE ?_
                    exact gv1 rfl rfl h
                · rw [if_neg (of_decide_eq_false hb53)] at h
                  refine WL_skip (gdN (b := (decide ((x_n21 : Int) = 0))) 68 rfl rfl hb53) rfl ?_
                  refine WL_skip (gdN (b := (decide ((x_n21 : Int) = 0))) 68 rfl rfl hb53) rfl ?_
                  refine WL_skip (gdN (b := (decide ((x_n21 : Int) = 0))) 68 rfl rfl hb53) rfl ?_
                  refine WL_val gd0 ((o_pickF (v := .bool false) rfl hb53 rfl) _) rfl ?_
                  refine WL_val gd0 ((o_move (v := .bool false) rfl) _) rfl ?_
                  refine WL_skip (gdN (b := false) 73 rfl rfl rfl) rfl ?_
                  refine WL_skip (gdN (b := false) 73 rfl rfl rfl) rfl ?_
                  refine WL_skip (gdN (b := false) 73 rfl rfl rfl) rfl ?_
                  refine WL_skip (gdN (b := false) 73 rfl rfl rfl) rfl ?_
                  refine WL_skip (gdN (b := false) 73 rfl rfl rfl) rfl ?_
                  refine WL_val gd0 ((o_pickF (v := .bool false) rfl rfl rfl) _) rfl ?_
                  refine WL_val gd0 ((o_move (v := .bool false) rfl) _) rfl ?_
                  refine WL_skip (gdN (b := false) 80 rfl rfl rfl) rfl ?_
                  refine WL_skip (gdN (b := false) 80 rfl rfl rfl) rfl ?_
                  refine WL_skip (gdN (b := false) 80 rfl rfl rfl) rfl ?_
                  refine WL_val gd0 ((o_pickF (v := .bool false) rfl rfl rfl) _) rfl ?_
                  refine WL_val gd0 ((o_move (v := .bool false) rfl) _) rfl ?_
                  refine WL_skip (gdN (b := false) 85 rfl rfl rfl) rfl ?_
                  refine WL_skip (gdN (b := false) 85 rfl rfl rfl) rfl ?_
                  refine WL_skip (gdN (b := false) 85 rfl rfl rfl) rfl ?_
                  refine WL_val gd0 ((o_pickF (v := .bool false) rfl rfl rfl) _) rfl ?_
                  refine WL_val gd0 ((o_move (v := .bool false) rfl) _) rfl ?_
                  refine WL_skip (gdN (b := false) 90 rfl rfl rfl) rfl ?_
                  refine WL_skip (gdN (b := false) 90 rfl rfl rfl) rfl ?_
                  refine WL_val gd0 ((o_pickF (v := .bool false) rfl rfl rfl) _) rfl ?_
                  refine WL_val gd0 ((o_move (v := .bool false) rfl) _) rfl ?_
                  refine WL_skip (gdN (b := false) 94 rfl rfl rfl) rfl ?_
                  refine WL_skip (gdN (b := false) 94 rfl rfl rfl) rfl ?_
                  refine WL_skip (gdN (b := false) 94 rfl rfl rfl) rfl ?_
                  refine WL_skip (gdN (b := false) 94 rfl rfl rfl) rfl ?_
                  refine WL_val gd0 ((o_pickF (v := .bool false) rfl rfl rfl) _) rfl ?_
                  refine WL_val gd0 ((o_move (v := .bool false) rfl) _) rfl ?_
                  refine WL_skip (gdN (b := false) 100 rfl rfl rfl) rfl ?_
                  refine WL_skip (gdN (b := false) 100 rfl rfl rfl) rfl ?_
                  refine WL_skip (gdN (b := false) 100 rfl rfl rfl) rfl ?_
                  refine WL_skip (gdN (b := false) 100 rfl rfl rfl) rfl ?_
                  refine WL_val gd0 ((o_pickF (v := .bool false) rfl rfl rfl) _) rfl ?_
                  refine WL_val gd0 ((o_assign (v := .bool false) rfl) _) rfl ?_
                  refine WL_nil ?_
                  refine nrm ?_
                  refine WC_ret ?_
                  refine rtE ?_
                  exact gv1 rfl rfl h
              · rw [if_neg (of_decide_eq_false hb52)] at h
                refine WL_skip (gdN (b := (decide (x50 = 13))) 63 rfl rfl hb52) rfl ?_
                refine WL_skip (gdN (b := (decide (x50 = 13))) 63 rfl rfl hb52) rfl ?_
                refine WL_skip (gdN (b := (decide (x50 = 13))) 63 rfl rfl hb52) rfl ?_
                refine WL_val gd0 ((o_pickF (v := .bool false) rfl hb52 rfl) _) rfl ?_
                refine WL_val gd0 ((o_move (v := .bool false) rfl) _) rfl ?_
                refine WL_skip (gdN (b := false) 68 rfl rfl rfl) rfl ?_
                refine WL_skip (gdN (b := false) 68 rfl rfl rfl) rfl ?_
                refine WL_skip (gdN (b := false) 68 rfl rfl rfl) rfl ?_
                refine WL_val gd0 ((o_pickF (v := .bool false) rfl rfl rfl) _) rfl ?_
                refine WL_val gd0 ((o_move (v := .bool false) rfl) _) rfl ?_
                refine WL_skip (gdN (b := false) 73 rfl rfl rfl) rfl ?_
                refine WL_skip (gdN (b := false) 73 rfl rfl rfl) rfl ?_
                refine WL_skip (gdN (b := false) 73 rfl rfl rfl) rfl ?_
                refine WL_skip (gdN (b := false) 73 rfl rfl rfl) rfl ?_
                refine WL_skip (gdN (b := false) 73 rfl rfl rfl) rfl ?_
                refine WL_val gd0 ((o_pickF (v := .bool false) rfl rfl rfl) _) rfl ?_
                refine WL_val gd0 ((o_move (v := .bool false) rfl) _) rfl ?_
                refine WL_skip (gdN (b := false) 80 rfl rfl rfl) rfl ?_
                refine WL_skip (gdN (b := false) 80 rfl rfl rfl) rfl ?_
                refine WL_skip (gdN (b := false) 80 rfl rfl rfl) rfl ?_
                refine WL_val gd0 ((o_pickF (v := .bool false) rfl rfl rfl) _) rfl ?_
                refine WL_val gd0 ((o_move (v := .bool false) rfl) _) rfl ?_
                refine WL_skip (gdN (b := false) 85 rfl rfl rfl) rfl ?_
                refine WL_skip (gdN (b := false) 85 rfl rfl rfl) rfl ?_
                refine WL_skip (gdN (b := false) 85 rfl rfl rfl) rfl ?_
                refine WL_val gd0 ((o_pickF (v := .bool false) rfl rfl rfl) _) rfl ?_
                refine WL_val gd0 ((o_move (v := .bool false) rfl) _) rfl ?_
                refine WL_skip (gdN (b := false) 90 rfl rfl rfl) rfl ?_
                refine WL_skip (gdN (b := false) 90 rfl rfl rfl) rfl ?_
                refine WL_val gd0 ((o_pickF (v := .bool false) rfl rfl rfl) _) rfl ?_
                refine WL_val gd0 ((o_move (v := .bool false) rfl) _) rfl ?_
                refine WL_skip (gdN (b := false) 94 rfl rfl rfl) rfl ?_
                refine WL_skip (gdN (b := false) 94 rfl rfl rfl) rfl ?_
                refine WL_skip (gdN (b := false) 94 rfl rfl rfl) rfl ?_
                refine WL_skip (gdN (b := false) 94 rfl rfl rfl) rfl ?_
                refine WL_val gd0 ((o_pickF (v := .bool false) rfl rfl rfl) _) rfl ?_
                refine WL_val gd0 ((o_move (v := .bool false) rfl) _) rfl ?_
                refine WL_skip (gdN (b := false) 100 rfl rfl rfl) rfl ?_
                refine WL_skip (gdN (b := false) 100 rfl rfl rfl) rfl ?_
                refine WL_skip (gdN (b := false) 100 rfl rfl rfl) rfl ?_
                refine WL_skip (gdN (b := false) 100 rfl rfl rfl) rfl ?_
                refine WL_val gd0 ((o_pickF (v := .bool false) rfl rfl rfl) _) rfl ?_
                refine WL_val gd0 ((o_assign (v := .bool false) rfl) _) rfl ?_
                refine WL_nil ?_
                refine nrm ?_
                refine WC_ret ?_
                refine rtE ?_
                exact gv1 rfl rfl h
            · rw [if_neg (of_decide_eq_false hb47)] at h
              refine WL_skip (gdN (b := (decide (x45 = 1))) 56 rfl rfl hb47) rfl ?_
              refine WL_skip (gdN (b := (decide (x45 = 1))) 56 rfl rfl hb47) rfl ?_
              refine WL_skip (gdN (b := (decide (x45 = 1))) 56 rfl rfl hb47) rfl ?_
              refine WL_skip (gdN (b := (decide (x45 = 1))) 56 rfl rfl hb47) rfl ?_
              refine WL_skip (gdN (b := (decide (x45 = 1))) 56 rfl rfl hb47) rfl ?_
              refine WL_val gd0 ((o_pickF (v := .bool false) rfl hb47 rfl) _) rfl ?_
              refine WL_val gd0 ((o_move (v := .bool false) rfl) _) rfl ?_
              refine WL_skip (gdN (b := false) 63 rfl rfl rfl) rfl ?_
              refine WL_skip (gdN (b := false) 63 rfl rfl rfl) rfl ?_
              refine WL_skip (gdN (b := false) 63 rfl rfl rfl) rfl ?_
              refine WL_val gd0 ((o_pickF (v := .bool false) rfl rfl rfl) _) rfl ?_
              refine WL_val gd0 ((o_move (v := .bool false) rfl) _) rfl ?_
              refine WL_skip (gdN (b := false) 68 rfl rfl rfl) rfl ?_
              refine WL_skip (gdN (b := false) 68 rfl rfl rfl) rfl ?_
              refine WL_skip (gdN (b := false) 68 rfl rfl rfl) rfl ?_
              refine WL_val gd0 ((o_pickF (v := .bool false) rfl rfl rfl) _) rfl ?_
              refine WL_val gd0 ((o_move (v := .bool false) rfl) _) rfl ?_
              refine WL_skip (gdN (b := false) 73 rfl rfl rfl) rfl ?_
              refine WL_skip (gdN (b := false) 73 rfl rfl rfl) rfl ?_
              refine WL_skip (gdN (b := false) 73 rfl rfl rfl) rfl ?_
              refine WL_skip (gdN (b := false) 73 rfl rfl rfl) rfl ?_
              refine WL_skip (gdN (b := false) 73 rfl rfl rfl) rfl ?_
              refine WL_val gd0 ((o_pickF (v := .bool false) rfl rfl rfl) _) rfl ?_
              refine WL_val gd0 ((o_move (v := .bool false) rfl) _) rfl ?_
              refine WL_skip (gdN (b := false) 80 rfl rfl rfl) rfl ?_
              refine WL_skip (gdN (b := false) 80 rfl rfl rfl) rfl ?_
              refine WL_skip (gdN (b := false) 80 rfl rfl rfl) rfl ?_
              refine WL_val gd0 ((o_pickF (v := .bool false) rfl rfl rfl) _) rfl ?_
              refine WL_val gd0 ((o_move (v := .bool false) rfl) _) rfl ?_
              refine WL_skip (gdN (b := false) 85 rfl rfl rfl) rfl ?_
              refine WL_skip (gdN (b := false) 85 rfl rfl rfl) rfl ?_
              refine WL_skip (gdN (b := false) 85 rfl rfl rfl) rfl ?_
              refine WL_val gd0 ((o_pickF (v := .bool false) rfl rfl rfl) _) rfl ?_
              refine WL_val gd0 ((o_move (v := .bool false) rfl) _) rfl ?_
              refine WL_skip (gdN (b := false) 90 rfl rfl rfl) rfl ?_
              refine WL_skip (gdN (b := false) 90 rfl rfl rfl) rfl ?_
              refine WL_val gd0 ((o_pickF (v := .bool false) rfl rfl rfl) _) rfl ?_
              refine WL_val gd0 ((o_move (v := .bool false) rfl) _) rfl ?_
              refine WL_skip (gdN (b := false) 94 rfl rfl rfl) rfl ?_
              refine WL_skip (gdN (b := false) 94 rfl rfl rfl) rfl ?_
              refine WL_skip (gdN (b := false) 94 rfl rfl rfl) rfl ?_
              refine WL_skip (gdN (b := false) 94 rfl rfl rfl) rfl ?_
              refine WL_val gd0 ((o_pickF (v := .bool false) rfl rfl rfl) _) rfl ?_
              refine WL_val gd0 ((o_move (v := .bool false) rfl) _) rfl ?_
              refine WL_skip (gdN (b := false) 100 rfl rfl rfl) rfl ?_
              refine WL_skip (gdN (b := false) 100 rfl rfl rfl) rfl ?_
              refine WL_skip (gdN (b := false) 100 rfl rfl rfl) rfl ?_
              refine WL_skip (gdN (b := false) 100 rfl rfl rfl) rfl ?_
              refine WL_val gd0 ((o_pickF (v := .bool false) rfl rfl rfl) _) rfl ?_
              refine WL_val gd0 ((o_assign (v := .bool false) rfl) _) rfl ?_
              refine WL_nil ?_
              refine nrm ?_
              refine WC_ret ?_
              refine rtE ?_
              exact gv1 rfl rfl h
          · rw [if_neg (of_decide_eq_false hb40)] at h
            refine WL_skip (gdN (b := (decide ((x_n17 : Int) = 1))) 49 rfl rfl hb40) rfl ?_
            refine WL_skip (gdN (b := (decide ((x_n17 : Int) = 1))) 49 rfl rfl hb40) rfl ?_
            refine WL_skip (gdN (b := (decide ((x_n17 : Int) = 1))) 49 rfl rfl hb40) rfl ?_
            refine WL_skip (gdN (b := (decide ((x_n17 : Int) = 1))) 49 rfl rfl hb40) rfl ?_
            refine WL_skip (gdN (b := (decide ((x_n17 : Int) = 1))) 49 rfl rfl hb40) rfl ?_
            refine WL_val gd0 ((o_pickF (v := .bool false) rfl hb40 rfl) _) rfl ?_
            refine WL_val gd0 ((o_move (v := .bool false) rfl) _) rfl ?_
            refine WL_skip (gdN (b := false) 56 rfl rfl rfl) rfl ?_
            refine WL_skip (gdN (b := false) 56 rfl rfl rfl) rfl ?_
            refine WL_skip (gdN (b := false) 56 rfl rfl rfl) rfl ?_
            refine WL_skip (gdN (b := false) 56 rfl rfl rfl) rfl ?_
            refine WL_skip (gdN (b := false) 56 rfl rfl rfl) rfl ?_
            refine WL_val gd0 ((o_pickF (v := .bool false) rfl rfl rfl) _) rfl ?_
            refine WL_val gd0 ((o_move (v := .bool false) rfl) _) rfl ?_
            refine WL_skip (gdN (b := false) 63 rfl rfl rfl) rfl ?_
            refine WL_skip (gdN (b := false) 63 rfl rfl rfl) rfl ?_
            refine WL_skip (gdN (b := false) 63 rfl rfl rfl) rfl ?_
            refine WL_val gd0 ((o_pickF (v := .bool false) rfl rfl rfl) _) rfl ?_
            refine WL_val gd0 ((o_move (v := .bool false) rfl) _) rfl ?_
            refine WL_skip (gdN (b := false) 68 rfl rfl rfl) rfl ?_
            refine WL_skip (gdN (b := false) 68 rfl rfl rfl) rfl ?_
            refine WL_skip (gdN (b := false) 68 rfl rfl rfl) rfl ?_
            refine WL_val gd0 ((o_pickF (v := .bool false) rfl rfl rfl) _) rfl ?_
            refine WL_val gd0 ((o_move (v := .bool false) rfl) _) rfl ?_
            refine WL_skip (gdN (b := false) 73 rfl rfl rfl) rfl ?_
            refine WL_skip (gdN (b := false) 73 rfl rfl rfl) rfl ?_
            refine WL_skip (gdN (b := false) 73 rfl rfl rfl) rfl ?_
            refine WL_skip (gdN (b := false) 73 rfl rfl rfl) rfl ?_
            refine WL_skip (gdN (b := false) 73 rfl rfl rfl) rfl ?_
            refine WL_val gd0 ((o_pickF (v := .bool false) rfl rfl rfl) _) rfl ?_
            refine WL_val gd0 ((o_move (v := .bool false) rfl) _) rfl ?_
            refine WL_skip (gdN (b := false) 80 rfl rfl rfl) rfl ?_
            refine WL_skip (gdN (b := false) 80 rfl rfl rfl) rfl ?_
            refine WL_skip (gdN (b := false) 80 rfl rfl rfl) rfl ?_
            refine WL_val gd0 ((o_pickF (v := .bool false) rfl rfl rfl) _) rfl ?_
            refine WL_val gd0 ((o_move (v := .bool false) rfl) _) rfl ?_
            refine WL_skip (gdN (b := false) 85 rfl rfl rfl) rfl ?_
            refine WL_skip (gdN (b := false) 85 rfl rfl rfl) rfl ?_
            refine WL_skip (gdN (b := false) 85 rfl rfl rfl) rfl ?_
            refine WL_val gd0 ((o_pickF (v := .bool false) rfl rfl rfl) _) rfl ?_
            refine WL_val gd0 ((o_move (v := .bool false) rfl) _) rfl ?_
            refine WL_skip (gdN (b := false) 90 rfl rfl rfl) rfl ?_
            refine WL_skip (gdN (b := false) 90 rfl rfl rfl) rfl ?_
            refine WL_val gd0 ((o_pickF (v := .bool false) rfl rfl rfl) _) rfl ?_
            refine WL_val gd0 ((o_move (v := .bool false) rfl) _) rfl ?_
            refine WL_skip (gdN (b := false) 94 rfl rfl rfl) rfl ?_
            refine WL_skip (gdN (b := false) 94 rfl rfl rfl) rfl ?_
            refine WL_skip (gdN (b := false) 94 rfl rfl rfl) rfl ?_
            refine WL_skip (gdN (b := false) 94 rfl rfl rfl) rfl ?_
            refine WL_val gd0 ((o_pickF (v := .bool false) rfl rfl rfl) _) rfl ?_
            refine WL_val gd0 ((o_move (v := .bool false) rfl) _) rfl ?_
            refine WL_skip (gdN (b := false) 100 rfl rfl rfl) rfl ?_
            refine WL_skip (gdN (b := false) 100 rfl rfl rfl) rfl ?_
            refine WL_skip (gdN (b := false) 100 rfl rfl rfl) rfl ?_
            refine WL_skip (gdN (b := false) 100 rfl rfl rfl) rfl ?_
            refine WL_val gd0 ((o_pickF (v := .bool false) rfl rfl rfl) _) rfl ?_
            refine WL_val gd0 ((o_assign (v := .bool false) rfl) _) rfl ?_
            refine WL_nil ?_
            refine nrm ?_
            refine WC_ret ?_
            refine rtE ?_
            exact gv1 rfl rfl h
        · rw [if_neg (of_decide_eq_false hb39)] at h
          refine WL_skip (gdN (b := (decide ((x_n13 : Int) = 0))) 44 rfl rfl hb39) rfl ?_
          refine WL_skip (gdN (b := (decide ((x_n13 : Int) = 0))) 44 rfl rfl hb39) rfl ?_
          refine WL_skip (gdN (b := (decide ((x_n13 : Int) = 0))) 44 rfl rfl hb39) rfl ?_
          refine WL_val gd0 ((o_pickF (v := .bool false) rfl hb39 rfl) _) rfl ?_
          refine WL_val gd0 ((o_move (v := .bool false) rfl) _) rfl ?_
          refine WL_skip (gdN (b := false) 49 rfl rfl rfl) rfl ?_
          refine WL_skip (gdN (b := false) 49 rfl rfl rfl) rfl ?_
          refine WL_skip (gdN (b := false) 49 rfl rfl rfl) rfl ?_
          refine WL_skip (gdN (b := false) 49 rfl rfl rfl) rfl ?_
          refine WL_skip (gdN (b := false) 49 rfl rfl rfl) rfl ?_
          refine WL_val gd0 ((o_pickF (v := .bool false) rfl rfl rfl) _) rfl ?_
          refine WL_val gd0 ((o_move (v := .bool false) rfl) _) rfl ?_
          refine WL_skip (gdN (b := false) 56 rfl rfl rfl) rfl ?_
          refine WL_skip (gdN (b := false) 56 rfl rfl rfl) rfl ?_
          refine WL_skip (gdN (b := false) 56 rfl rfl rfl) rfl ?_
          refine WL_skip (gdN (b := false) 56 rfl rfl rfl) rfl ?_
          refine WL_skip (gdN (b := false) 56 rfl rfl rfl) rfl ?_
          refine WL_val gd0 ((o_pickF (v := .bool false) rfl rfl rfl) _) rfl ?_
          refine WL_val gd0 ((o_move (v := .bool false) rfl) _) rfl ?_
          refine WL_skip (gdN (b := false) 63 rfl rfl rfl) rfl ?_
          refine WL_skip (gdN (b := false) 63 rfl rfl rfl) rfl ?_
          refine WL_skip (gdN (b := false) 63 rfl rfl rfl) rfl ?_
          refine WL_val gd0 ((o_pickF (v := .bool false) rfl rfl rfl) _) rfl ?_
          refine WL_val gd0 ((o_move (v := .bool false) rfl) _) rfl ?_
          refine WL_skip (gdN (b := false) 68 rfl rfl rfl) rfl ?_
          refine WL_skip (gdN (b := false) 68 rfl rfl rfl) rfl ?_
          refine WL_skip (gdN (b := false) 68 rfl rfl rfl) rfl ?_
          refine WL_val gd0 ((o_pickF (v := .bool false) rfl rfl rfl) _) rfl ?_
          refine WL_val gd0 ((o_move (v := .bool false) rfl) _) rfl ?_
          refine WL_skip (gdN (b := false) 73 rfl rfl rfl) rfl ?_
          refine WL_skip (gdN (b := false) 73 rfl rfl rfl) rfl ?_
          refine WL_skip (gdN (b := false) 73 rfl rfl rfl) rfl ?_
          refine WL_skip (gdN (b := false) 73 rfl rfl rfl) rfl ?_
          refine WL_skip (gdN (b := false) 73 rfl rfl rfl) rfl ?_
          refine WL_val gd0 ((o_pickF (v := .bool false) rfl rfl rfl) _) rfl ?_
          refine WL_val gd0 ((o_move (v := .bool false) rfl) _) rfl ?_
          refine WL_skip (gdN (b := false) 80 rfl rfl rfl) rfl ?_
          refine WL_skip (gdN (b := false) 80 rfl rfl rfl) rfl ?_
          refine WL_skip (gdN (b := false) 80 rfl rfl rfl) rfl ?_
          refine WL_val gd0 ((o_pickF (v := .bool false) rfl rfl rfl) _) rfl ?_
          refine WL_val gd0 ((o_move (v := .bool false) rfl) _) rfl ?_
          refine WL_skip (gdN (b := false) 85 rfl rfl rfl) rfl ?_
          refine WL_skip (gdN (b := false) 85 rfl rfl rfl) rfl ?_
          refine WL_skip (gdN (b := false) 85 rfl rfl rfl) rfl ?_
          refine WL_val gd0 ((o_pickF (v := .bool false) rfl rfl rfl) _) rfl ?_
          refine WL_val gd0 ((o_move (v := .bool false) rfl) _) rfl ?_
          refine WL_skip (gdN (b := false) 90 rfl rfl rfl) rfl ?_
          refine WL_skip (gdN (b := false) 90 rfl rfl rfl) rfl ?_
          refine WL_val gd0 ((o_pickF (v := .bool false) rfl rfl rfl) _) rfl ?_
          refine WL_val gd0 ((o_move (v := .bool false) rfl) _) rfl ?_
          refine WL_skip (gdN (b := false) 94 rfl rfl rfl) rfl ?_
          refine WL_skip (gdN (b := false) 94 rfl rfl rfl) rfl ?_
          refine WL_skip (gdN (b := false) 94 rfl rfl rfl) rfl ?_
          refine WL_skip (gdN (b := false) 94 rfl rfl rfl) rfl ?_
          refine WL_val gd0 ((o_pickF (v := .bool false) rfl rfl rfl) _) rfl ?_
          refine WL_val gd0 ((o_move (v := .bool false) rfl) _) rfl ?_
          refine WL_skip (gdN (b := false) 100 rfl rfl rfl) rfl ?_
          refine WL_skip (gdN (b := false) 100 rfl rfl rfl) rfl ?_
          refine WL_skip (gdN (b := false) 100 rfl rfl rfl) rfl ?_
          refine WL_skip (gdN (b := false) 100 rfl rfl rfl) rfl ?_
          refine WL_val gd0 ((o_pickF (v := .bool false) rfl rfl rfl) _) rfl ?_
          refine WL_val gd0 ((o_assign (v := .bool false) rfl) _) rfl ?_
          refine WL_nil ?_
          refine nrm ?_
          refine WC_ret ?_
          refine rtE ?_
          exact gv1 rfl rfl h
      · rw [if_neg (of_decide_eq_false hb38)] at h
        refine WL_skip (gdN (b := (decide (b10 = 0))) 39 rfl rfl hb38) rfl ?_
        refine WL_skip (gdN (b := (decide (b10 = 0))) 39 rfl rfl hb38) rfl ?_
        refine WL_skip (gdN (b := (decide (b10 = 0))) 39 rfl rfl hb38) rfl ?_
        refine WL_val gd0 ((o_pickF (v := .bool false) rfl hb38 rfl) _) rfl ?_
        refine WL_val gd0 ((o_move (v := .bool false) rfl) _) rfl ?_
        refine WL_skip (gdN (b := false) 44 rfl rfl rfl) rfl ?_
        refine WL_skip (gdN (b := false) 44 rfl rfl rfl) rfl ?_
        refine WL_skip (gdN (b := false) 44 rfl rfl rfl) rfl ?_
        refine WL_val gd0 ((o_pickF (v := .bool false) rfl rfl rfl) _) rfl ?_
        refine WL_val gd0 ((o_move (v := .bool false) rfl) _) rfl ?_
        refine WL_skip (gdN (b := false) 49 rfl rfl rfl) rfl ?_
        refine WL_skip (gdN (b := false) 49 rfl rfl rfl) rfl ?_
        refine WL_skip (gdN (b := false) 49 rfl rfl rfl) rfl ?_
        refine WL_skip (gdN (b := false) 49 rfl rfl rfl) rfl ?_
        refine WL_skip (gdN (b := false) 49 rfl rfl rfl) rfl ?_
        refine WL_val gd0 ((o_pickF (v := .bool false) rfl rfl rfl) _) rfl ?_
        refine WL_val gd0 ((o_move (v := .bool false) rfl) _) rfl ?_
        refine WL_skip (gdN (b := false) 56 rfl rfl rfl) rfl ?_
        refine WL_skip (gdN (b := false) 56 rfl rfl rfl) rfl ?_
        refine WL_skip (gdN (b := false) 56 rfl rfl rfl) rfl ?_
        refine WL_skip (gdN (b := false) 56 rfl rfl rfl) rfl ?_
        refine WL_skip (gdN (b := false) 56 rfl rfl rfl) rfl ?_
        refine WL_val gd0 ((o_pickF (v := .bool false) rfl rfl rfl) _) rfl ?_
        refine WL_val gd0 ((o_move (v := .bool false) rfl) _) rfl ?_
        refine WL_skip (gdN (b := false) 63 rfl rfl rfl) rfl ?_
        refine WL_skip (gdN (b := false) 63 rfl rfl rfl) rfl ?_
        refine WL_skip (gdN (b := false) 63 rfl rfl rfl) rfl ?_
        refine WL_val gd0 ((o_pickF (v := .bool false) rfl rfl rfl) _) rfl ?_
        refine WL_val gd0 ((o_move (v := .bool false) rfl) _) rfl ?_
        refine WL_skip (gdN (b := false) 68 rfl rfl rfl) rfl ?_
        refine WL_skip (gdN (b := false) 68 rfl rfl rfl) rfl ?_
        refine WL_skip (gdN (b := false) 68 rfl rfl rfl) rfl ?_
        refine WL_val gd0 ((o_pickF (v := .bool false) rfl rfl rfl) _) rfl ?_
        refine WL_val gd0 ((o_move (v := .bool false) rfl) _) rfl ?_
        refine WL_skip (gdN (b := false) 73 rfl rfl rfl) rfl ?_
        refine WL_skip (gdN (b := false) 73 rfl rfl rfl) rfl ?_
        refine WL_skip (gdN (b := false) 73 rfl rfl rfl) rfl ?_
        refine WL_skip (gdN (b := false) 73 rfl rfl rfl) rfl ?_
        refine WL_skip (gdN (b := false) 73 rfl rfl rfl) rfl ?_
        refine WL_val gd0 ((o_pickF (v := .bool false) rfl rfl rfl) _) rfl ?_
        refine WL_val gd0 ((o_move (v := .bool false) rfl) _) rfl ?_
        refine WL_skip (gdN (b := false) 80 rfl rfl rfl) rfl ?_
        refine WL_skip (gdN (b := false) 80 rfl rfl rfl) rfl ?_
        refine WL_skip (gdN (b := false) 80 rfl rfl rfl) rfl ?_
        refine WL_val gd0 ((o_pickF (v := .bool false) rfl rfl rfl) _) rfl ?_
        refine WL_val gd0 ((o_move (v := .bool false) rfl) _) rfl ?_
        refine WL_skip (gdN (b := false) 85 rfl rfl rfl) rfl ?_
        refine WL_skip (gdN (b := false) 85 rfl rfl rfl) rfl ?_
        refine WL_skip (gdN (b := false) 85 rfl rfl rfl) rfl ?_
        refine WL_val gd0 ((o_pickF (v := .bool false) rfl rfl rfl) _) rfl ?_
        refine WL_val gd0 ((o_move (v := .bool false) rfl) _) rfl ?_
        refine WL_skip (gdN (b := false) 90 rfl rfl rfl) rfl ?_
        refine WL_skip (gdN (b := false) 90 rfl rfl rfl) rfl ?_
        refine WL_val gd0 ((o_pickF (v := .bool false) rfl rfl rfl) _) rfl ?_
        refine WL_val gd0 ((o_move (v := .bool false) rfl) _) rfl ?_
        refine WL_skip (gdN (b := false) 94 rfl rfl rfl) rfl ?_
        refine WL_skip (gdN (b := false) 94 rfl rfl rfl) rfl ?_
        refine WL_skip (gdN (b := false) 94 rfl rfl rfl) rfl ?_
        refine WL_skip (gdN (b := false) 94 rfl rfl rfl) rfl ?_
        refine WL_val gd0 ((o_pickF (v := .bool false) rfl rfl rfl) _) rfl ?_
        refine WL_val gd0 ((o_move (v := .bool false) rfl) _) rfl ?_
        refine WL_skip (gdN (b := false) 100 rfl rfl rfl) rfl ?_
        refine WL_skip (gdN (b := false) 100 rfl rfl rfl) rfl ?_
        refine WL_skip (gdN (b := false) 100 rfl rfl rfl) rfl ?_
        refine WL_skip (gdN (b := false) 100 rfl rfl rfl) rfl ?_
        refine WL_val gd0 ((o_pickF (v := .bool false) rfl rfl rfl) _) rfl ?_
        refine WL_val gd0 ((o_assign (v := .bool false) rfl) _) rfl ?_
        refine WL_nil ?_
        refine nrm ?_
        refine WC_ret ?_
        refine rtE ?_
        exact gv1 rfl rfl h
    · rw [if_neg (of_decide_eq_false hb37)] at h
      refine WL_skip (gdN (b := (decide (a8 = 0))) 35 rfl rfl hb37) rfl ?_
      refine WL_skip (gdN (b := (decide (a8 = 0))) 35 rfl rfl hb37) rfl ?_
      refine WL_val gd0 ((o_pickF (v := .bool false) rfl hb37 rfl) _) rfl ?_
      refine WL_val gd0 ((o_move (v := .bool false) rfl) _) rfl ?_
      refine WL_skip (gdN (b := false) 39 rfl rfl rfl) rfl ?_
      refine WL_skip (gdN (b := false) 39 rfl rfl rfl) rfl ?_
      refine WL_skip (gdN (b := false) 39 rfl rfl rfl) rfl ?_
      refine WL_val gd0 ((o_pickF (v := .bool false) rfl rfl rfl) _) rfl ?_
      refine WL_val gd0 ((o_move (v := .bool false) rfl) _) rfl ?_
      refine WL_skip (gdN (b := false) 44 rfl rfl rfl) rfl ?_
      refine WL_skip (gdN (b := false) 44 rfl rfl rfl) rfl ?_
      refine WL_skip (gdN (b := false) 44 rfl rfl rfl) rfl ?_
      refine WL_val gd0 ((o_pickF (v := .bool false) rfl rfl rfl) _) rfl ?_
      refine WL_val gd0 ((o_move (v := .bool false) rfl) _) rfl ?_
      refine WL_skip (gdN (b := false) 49 rfl rfl rfl) rfl ?_
      refine WL_skip (gdN (b := false) 49 rfl rfl rfl) rfl ?_
      refine WL_skip (gdN (b := false) 49 rfl rfl rfl) rfl ?_
      refine WL_skip (gdN (b := false) 49 rfl rfl rfl) rfl ?_
      refine WL_skip (gdN (b := false) 49 rfl rfl rfl) rfl ?_
      refine WL_val gd0 ((o_pickF (v := .bool false) rfl rfl rfl) _) rfl ?_
      refine WL_val gd0 ((o_move (v := .bool false) rfl) _) rfl ?_
      refine WL_skip (gdN (b := false) 56 rfl rfl rfl) rfl ?_
      refine WL_skip (gdN (b := false) 56 rfl rfl rfl) rfl ?_
      refine WL_skip (gdN (b := false) 56 rfl rfl rfl) rfl ?_
      refine WL_skip (gdN (b := false) 56 rfl rfl rfl) rfl ?_
      refine WL_skip (gdN (b := false) 56 rfl rfl rfl) rfl ?_
      refine WL_val gd0 ((o_pickF (v := .bool false) rfl rfl rfl) _) rfl ?_
      refine WL_val gd0 ((o_move (v := .bool false) rfl) _) rfl ?_
      refine WL_skip (gdN (b := false) 63 rfl rfl rfl) rfl ?_
      refine WL_skip (gdN (b := false) 63 rfl rfl rfl) rfl ?_
      refine WL_skip (gdN (b := false) 63 rfl rfl rfl) rfl ?_
      refine WL_val gd0 ((o_pickF (v := .bool false) rfl rfl rfl) _) rfl ?_
      refine WL_val gd0 ((o_move (v := .bool false) rfl) _) rfl ?_
      refine WL_skip (gdN (b := false) 68 rfl rfl rfl) rfl ?_
      refine WL_skip (gdN (b := false) 68 rfl rfl rfl) rfl ?_
      refine WL_skip (gdN (b := false) 68 rfl rfl rfl) rfl ?_
      refine WL_val gd0 ((o_pickF (v := .bool false) rfl rfl rfl) _) rfl ?_
      refine WL_val gd0 ((o_move (v := .bool false) rfl) _) rfl ?_
      refine WL_skip (gdN (b := false) 73 rfl rfl rfl) rfl ?_
      refine WL_skip (gdN (b := false) 73 rfl rfl rfl) rfl ?_
      refine WL_skip (gdN (b := false) 73 rfl rfl rfl) rfl ?_
      refine WL_skip (gdN (b := false) 73 rfl rfl rfl) rfl ?_
      refine WL_skip (gdN (b := false) 73 rfl rfl rfl) rfl ?_
      refine WL_val gd0 ((o_pickF (v := .bool false) rfl rfl rfl) _) rfl ?_
      refine WL_val gd0 ((o_move (v := .bool false) rfl) _) rfl ?_
      refine WL_skip (gdN (b := false) 80 rfl rfl rfl) rfl ?_
      refine WL_skip (gdN (b := false) 80 rfl rfl rfl) rfl ?_
      refine WL_skip (gdN (b := false) 80 rfl rfl rfl) rfl ?_
      refine WL_val gd0 ((o_pickF (v := .bool false) rfl rfl rfl) _) rfl ?_
      refine WL_val gd0 ((o_move (v := .bool false) rfl) _) rfl ?_
      refine WL_skip (gdN (b := false) 85 rfl rfl rfl) rfl ?_
      refine WL_skip (gdN (b := false) 85 rfl rfl rfl) rfl ?_
      refine WL_skip (gdN (b := false) 85 rfl rfl rfl) rfl ?_
      refine WL_val gd0 ((o_pickF (v := .bool false) rfl rfl rfl) _) rfl ?_
      refine WL_val gd0 ((o_move (v := .bool false) rfl) _) rfl ?_
      refine WL_skip (gdN (b := false) 90 rfl rfl rfl) rfl ?_
      refine WL_skip (gdN (b := false) 90 rfl rfl rfl) rfl ?_
      refine WL_val gd0 ((o_pickF (v := .bool false) rfl rfl rfl) _) rfl ?_
      refine WL_val gd0 ((o_move (v := .bool false) rfl) _) rfl ?_
      refine WL_skip (gdN (b := false) 94 rfl rfl rfl) rfl ?_
      refine WL_skip (gdN (b := false) 94 rfl rfl rfl) rfl ?_
      refine WL_skip (gdN (b := false) 94 rfl rfl rfl) rfl ?_
      refine WL_skip (gdN (b := false) 94 rfl rfl rfl) rfl ?_
      refine WL_val gd0 ((o_pickF (v := .bool false) rfl rfl rfl) _) rfl ?_
      refine WL_val gd0 ((o_move (v := .bool false) rfl) _) rfl ?_
      refine WL_skip (gdN (b := false) 100 rfl rfl rfl) rfl ?_
      refine WL_skip (gdN (b := false) 100 rfl rfl rfl) rfl ?_
      refine WL_skip (gdN (b := false) 100 rfl rfl rfl) rfl ?_
      refine WL_skip (gdN (b := false) 100 rfl rfl rfl) rfl ?_
      refine WL_val gd0 ((o_pickF (v := .bool false) rfl rfl rfl) _) rfl ?_
      refine WL_val gd0 ((o_assign (v := .bool false) rfl) _) rfl ?_
      refine WL_nil ?_
      refine nrm ?_
      refine WC_ret ?_
      refine rtE ?_
      exact gv1 rfl rfl h

def F13_j1 (p22 : Addr) (r11 : Int) (on3 : Bool) (w26 : World) (k : Value → World → Prop) : Prop :=
  Put w26 ((p22.add (r11.toNat * 5)).add 2) (.bool on3) (fun w27 => k (.int .i64 0) w27)
def F13_j2 (p14 : Addr) (p22 : Addr) (r11 : Int) (on3 : Bool) (t33 : Bool) (w34 : World) (k : Value → World → Prop) : Prop :=
  if t33 = true then
  ∃ (x36 : Int), w34.drew.cell? (p14.add 1) = some (.int .i64 x36) ∧ ∃ (x38 : Int), w34.drew.cell? ((p22.add (r11.toNat * 5)).add 1) = some (.int .i64 x38) ∧ Put w34.drew ((p22.add (r11.toNat * 5)).add 4) (.int .i64 (IntKind.i64.wrap (x36 + x38))) (fun w40 => F13_j1 p22 r11 on3 w40 k)
else
  F13_j1 p22 r11 on3 w34 k
/-- (*spacecraft hk.Service).Enable -/
def F13 (s1 : Option Addr) (id2 : Int) (on3 : Bool) (now4 : Int) (w5 : World) (k : Value → World → Prop) : Prop :=
  Does Try.prog 20 #[.pointer s1] w5 (fun v w6 => ∃ (x7 : Bool), v = .bool x7 ∧ if (!x7) = true then
  k (.int .i64 2) w6
else
  Does Try.prog 26 #[.pointer s1, .int .i64 now4] w6 (fun v w9 => v = .tuple #[] ∧ Does Try.prog 22 #[.pointer s1, .int .i64 id2] w9 (fun v w10 => ∃ (r11 : Int) (r12 : Bool), v = .tuple #[.int .i64 r11, .bool r12] ∧ if (!r12) = true then
    k (.int .i64 8) w10
  else
    ∃ (p14 : Addr), s1 = some p14 ∧ ∃ (x_a16 : Option Addr) (x_n17 x_c18 : Nat), w10.cell? (p14.add 2) = some (.slice x_a16 x_n17 x_c18) ∧ ∃ (p22 : Addr), x_a16 = some p22 ∧ (0 : Int) ≤ r11 ∧ r11 < (x_n17 : Int) ∧ if on3 = true then
      ∃ (x43 : Bool), w10.cell? ((p22.add (r11.toNat * 5)).add 2) = some (.bool x43) ∧ F13_j2 p14 p22 r11 on3 (!x43) w10 k
    else
      F13_j2 p14 p22 r11 on3 false w10 k)))
set_option maxRecDepth 100000 in
set_option maxHeartbeats 2000000 in
theorem w13 (s1 : Option Addr) (id2 : Int) (on3 : Bool) (now4 : Int) (w5 : World) (k : Value → World → Prop) (h : F13 s1 id2 on3 now4 w5 k) : Does Try.prog 13 #[.pointer s1, .int .i64 id2, .bool on3, .int .i64 now4] w5 k := by
  refine enter 59 Try.func13 rfl rfl rfl ?_
  intro ρ hρ
  have e0 := hρ 0 _ rfl
  have e1 := hρ 1 _ rfl
  have e2 := hρ 2 _ rfl
  have e3 := hρ 3 _ rfl
  unfold F13 at h
  refine WC_seq ?_
  refine WC_region ?_
  refine WL_val gd0 ((o_assign (v := .int .i64 0) rfl) _) rfl ?_
  refine WL_nil ?_
  refine nrm ?_
  refine WC_seq ?_
  refine WC_seq ?_
  refine WC_region ?_
  refine WL_val gd0 ((o_move (v := .pointer s1) (by exact e0)) _) rfl ?_
  refine WL_call gd0 (o_call Try.call20 (argCons rfl argNil) _) rfl (h.mono ?_)
  rintro _ w6 ⟨x7, rfl, h⟩
  refine WL_val gd0 ((o_not rfl) _) rfl ?_
  refine WL_nil ?_
  refine nrm ?_
  refine WC_cond (t := (!x7)) rfl (fun hb8 => ?_) (fun hb8 => ?_)
  · rw [if_pos hb8] at h
    refine WC_seq ?_
    refine WC_region ?_
    refine WL_val gd0 ((o_assign (v := .int .i64 2) rfl) _) rfl ?_
    refine WL_nil ?_
    refine nrm ?_
    refine WC_ret ?_
    refine rtT ?_
    refine rtE ?_
    exact gv1 rfl rfl h
  · rw [if_neg (neT hb8)] at h
    refine WC_skip ?_
    refine nrm ?_
    refine WC_seq ?_
    refine WC_region ?_
    refine WL_val gd0 ((o_move (v := .pointer s1) (by exact e0)) _) rfl ?_
    refine WL_val gd0 ((o_move (v := .int .i64 now4) (by exact e3)) _) rfl ?_
    refine WL_call gd0 (o_call Try.call26 (argCons rfl (argCons rfl argNil)) _) rfl (h.mono ?_)
    rintro _ w9 ⟨rfl, h⟩
    refine WL_nil ?_
    refine nrm ?_
    refine WC_seq ?_
    refine WC_region ?_
    refine WL_val gd0 ((o_move (v := .pointer s1) (by exact e0)) _) rfl ?_
    refine WL_val gd0 ((o_move (v := .int .i64 id2) (by exact e1)) _) rfl ?_
    refine WL_call gd0 (o_call Try.call22 (argCons rfl (argCons rfl argNil)) _) rfl (h.mono ?_)
    rintro _ w10 ⟨r11, r12, rfl, h⟩
    refine WL_val gd0 ((o_move (v := .tuple #[.int .i64 r11, .bool r12]) rfl) _) rfl ?_
    refine WL_val gd0 ((o_extract (vs := [.int .i64 r11, .bool r12]) (r := .int .i64 r11) rfl rfl) _) rfl ?_
    refine WL_val gd0 ((o_extract (vs := [.int .i64 r11, .bool r12]) (r := .bool r12) rfl rfl) _) rfl ?_
    refine WL_val gd0 ((o_assign (v := .int .i64 r11) rfl) _) rfl ?_
    refine WL_val gd0 ((o_assign (v := .bool r12) rfl) _) rfl ?_
    refine WL_nil ?_
    refine nrm ?_
    refine WC_seq ?_
    refine WC_seq ?_
    refine WC_region ?_
    refine WL_val gd0 ((o_move (v := .bool r12) rfl) _) rfl ?_
    refine WL_val gd0 ((o_not rfl) _) rfl ?_
    refine WL_nil ?_
    refine nrm ?_
    refine WC_cond (t := (!r12)) rfl (fun hb13 => ?_) (fun hb13 => ?_)
    · rw [if_pos hb13] at h
      refine WC_seq ?_
      refine WC_region ?_
      refine WL_val gd0 ((o_assign (v := .int .i64 8) rfl) _) rfl ?_
      refine WL_nil ?_
      refine nrm ?_
      refine WC_ret ?_
      refine rtT ?_
      refine rtE ?_
      exact gv1 rfl rfl h
    · rw [if_neg (neT hb13)] at h
      refine WC_skip ?_
      refine nrm ?_
      refine WC_seq ?_
      refine WC_region ?_
      refine WL_val gd0 ((o_move (v := .pointer s1) (by exact e0)) _) rfl ?_
      obtain ⟨p14, q15, h⟩ := h
      refine WL_val gd0 ((o_nilCheck (by exact (congrArg Value.pointer q15))) _) rfl ?_
      refine WL_val gd0 ((o_fieldAddr 2 Try.underlying47 rfl Try.sizeOf45 rfl rfl rfl) _) rfl ?_
      obtain ⟨x_a16, x_n17, x_c18, hc19, h⟩ := h
      refine WL_val gd0 (o_load Try.isAgg45 rfl hc19) rfl ?_
      refine WL_val gd0 ((o_move (v := .int .i64 r11) rfl) _) rfl ?_
      obtain ⟨p22, q23, h⟩ := h
      obtain ⟨l20, u21, h⟩ := h
      refine WL_val gd0 ((o_indexAddr Try.underlying45 Try.sizeOf66 (by exact (congrArg (fun z => Value.slice z x_n17 x_c18) q23)) rfl l20 u21) _) rfl ?_
      refine WL_val gd0 ((o_assign (v := .pointer (some (p22.add (r11.toNat * 5)))) rfl) _) rfl ?_
      refine WL_nil ?_
      refine nrm ?_
      refine WC_cut (fun ρ w' => ρ 2 = .bool on3 ∧ ρ 11 = .pointer (some (p22.add (r11.toNat * 5))) ∧ F13_j1 p22 r11 on3 w' k) ?_ ?_
      · refine WC_cut (fun ρ w' => ∃ (t33 : Bool), ρ 40 = .bool t33 ∧ ρ 0 = .pointer s1 ∧ ρ 2 = .bool on3 ∧ ρ 11 = .pointer (some (p22.add (r11.toNat * 5))) ∧ F13_j2 p14 p22 r11 on3 t33 w' k) ?_ ?_
        · refine WC_region ?_
          refine WL_val gd0 ((o_move (v := .bool on3) (by exact e2)) _) rfl ?_
          refine WL_val gd0 ((o_move (v := .bool on3) rfl) _) rfl ?_
          refine bsplit on3 (fun hb42 => ?_) (fun hb42 => ?_)
          · rw [if_pos hb42] at h
            refine WL_val (gdY (b := on3) 33 rfl rfl hb42) ((o_move (v := .pointer (some (p22.add (r11.toNat * 5)))) rfl) _) rfl ?_
            refine WL_val (gdY (b := on3) 33 rfl rfl hb42) ((o_nilCheck rfl) _) rfl ?_
            refine WL_val (gdY (b := on3) 33 rfl rfl hb42) ((o_fieldAddr0 Try.underlying66 rfl Try.sizeOf31 rfl rfl rfl) _) rfl ?_
            refine WL_val (gdY (b := on3) 33 rfl rfl hb42) ((o_fieldAddr 2 Try.underlying31 rfl Try.sizeOf4 rfl rfl rfl) _) rfl ?_
            obtain ⟨x43, hc44, h⟩ := h
            refine WL_val (gdY (b := on3) 33 rfl rfl hb42) (o_load Try.isAgg4 rfl hc44) rfl ?_
            refine WL_val (gdY (b := on3) 33 rfl rfl hb42) ((o_not rfl) _) rfl ?_
            refine WL_val gd0 ((o_pickT (v := .bool (!x43)) rfl hb42 rfl) _) rfl ?_
            refine WL_nil ?_
            refine nrm ?_
            exact ⟨_, rfl, e0, e2, rfl, h⟩
          · rw [if_neg (neT hb42)] at h
            refine WL_skip (gdN (b := on3) 33 rfl rfl hb42) rfl ?_
            refine WL_skip (gdN (b := on3) 33 rfl rfl hb42) rfl ?_
            refine WL_skip (gdN (b := on3) 33 rfl rfl hb42) rfl ?_
            refine WL_skip (gdN (b := on3) 33 rfl rfl hb42) rfl ?_
            refine WL_skip (gdN (b := on3) 33 rfl rfl hb42) rfl ?_
            refine WL_skip (gdN (b := on3) 33 rfl rfl hb42) rfl ?_
            refine WL_val gd0 ((o_pickF (v := .bool false) rfl hb42 rfl) _) rfl ?_
            refine WL_nil ?_
            refine nrm ?_
            exact ⟨_, rfl, e0, e2, rfl, h⟩
        · rintro ρ w34 ⟨t33, e40_32, e0_29, e2_30, e11_31, h⟩
          unfold F13_j2 at h
          refine WC_cond (t := t33) (by exact e40_32) (fun hb35 => ?_) (fun hb35 => ?_)
          · rw [if_pos hb35] at h
            refine WC_draws [13] (.look 0 (.look 1 (.look 2 (.look 3 (.look 4 (.look 5 (.look 6 (.look 7 (.look 8 (.look 9 (.look 10 (.look 11 (.look 12 (.act 13 .nil)))))))))))))) Try.mixed (by kernel_rfl) ?_
            refine WQ_val rfl gd0 (o_move (v := .pointer (some (p22.add (r11.toNat * 5)))) (by exact e11_31)) rfl ?_
            refine WQ_val rfl gd0 (o_move (v := .pointer s1) (by exact e0_29)) rfl ?_
            refine WQ_val rfl gd0 (o_nilCheck (by exact (congrArg Value.pointer q15))) rfl ?_
            refine WQ_val rfl gd0 (o_fieldAddr 1 Try.underlying47 rfl Try.sizeOf3 rfl rfl rfl) rfl ?_
            obtain ⟨x36, hc37, h⟩ := h
            refine WQ_look (fun w => w.cell? (p14.add 1) = some (.int .i64 x36)) rfl gd0 (fun w hc => (o_load Try.isAgg3 rfl hc)) hc37 rfl ?_
            refine WQ_val rfl gd0 (o_move (v := .pointer (some (p22.add (r11.toNat * 5)))) (by exact e11_31)) rfl ?_
            refine WQ_val rfl gd0 (o_nilCheck rfl) rfl ?_
            refine WQ_val rfl gd0 (o_fieldAddr0 Try.underlying66 rfl Try.sizeOf31 rfl rfl rfl) rfl ?_
            refine WQ_val rfl gd0 (o_fieldAddr 1 Try.underlying31 rfl Try.sizeOf3 rfl rfl rfl) rfl ?_
            obtain ⟨x38, hc39, h⟩ := h
            refine WQ_look (fun w => w.cell? ((p22.add (r11.toNat * 5)).add 1) = some (.int .i64 x38)) rfl gd0 (fun w hc => (o_load Try.isAgg3 rfl hc)) hc39 rfl ?_
            refine WQ_val rfl gd0 (o_add rfl rfl) rfl ?_
            refine WQ_val rfl gd0 (o_nilCheck rfl) rfl ?_
            refine WQ_val rfl gd0 (o_fieldAddr 4 Try.underlying66 rfl Try.sizeOf3 rfl rfl rfl) rfl ?_
            obtain ⟨c41, h⟩ := h
            refine WQ_do rfl gd0 (o_store (v := .int .i64 (IntKind.i64.wrap (x36 + x38))) Try.sizeOf3 rfl rfl rfl c41) (by exact ⟨⟨trivial, depT (by kernel_rfl)⟩, depT (by kernel_rfl)⟩) ?_
            generalize hw40 : World.setCell w34.drew ((p22.add (r11.toNat * 5)).add 4) (.int .i64 (IntKind.i64.wrap (x36 + x38))) = w40 at h ⊢
            try dsimp only at h
            refine WQ_nil ?_
            refine nrm ?_
            exact ⟨e2_30, e11_31, h⟩
          · rw [if_neg (neT hb35)] at h
            refine WC_skip ?_
            refine nrm ?_
            exact ⟨e2_30, e11_31, h⟩
      · rintro ρ w26 ⟨e2_24, e11_25, h⟩
        unfold F13_j1 at h
        refine WC_seq ?_
        refine WC_region ?_
        refine WL_val gd0 ((o_move (v := .pointer (some (p22.add (r11.toNat * 5)))) (by exact e11_25)) _) rfl ?_
        refine WL_val gd0 ((o_move (v := .bool on3) (by exact e2_24)) _) rfl ?_
        refine WL_val gd0 ((o_nilCheck rfl) _) rfl ?_
        refine WL_val gd0 ((o_fieldAddr0 Try.underlying66 rfl Try.sizeOf31 rfl rfl rfl) _) rfl ?_
        refine WL_val gd0 ((o_fieldAddr 2 Try.underlying31 rfl Try.sizeOf4 rfl rfl rfl) _) rfl ?_
        obtain ⟨c28, h⟩ := h
        refine WL_act gd0 (o_store (v := .bool on3) Try.sizeOf4 rfl rfl rfl c28) ?_
        generalize hw27 : World.setCell w26 ((p22.add (r11.toNat * 5)).add 2) (.bool on3) = w27 at h ⊢
        try dsimp only at h
        refine WL_nil ?_
        refine nrm ?_
        refine WC_seq ?_
        refine WC_region ?_
        refine WL_val gd0 ((o_assign (v := .int .i64 0) rfl) _) rfl ?_
        refine WL_nil ?_
        refine nrm ?_
        refine WC_ret ?_
        refine rtE ?_
        exact gv1 rfl rfl h

def F14_j2 (p33 : Addr) (t23 : Int) (p9 : Addr) (out_a18 : Option Addr) (out_n19 : Nat) (out_c20 : Nat) (b_a63 : Option Addr) (b_n64 : Nat) (b_c65 : Nat) (w68 : World) (nx24 : Option Addr → Nat → Nat → Int → World → Prop) : Prop :=
  ∃ (x69 : Int), w68.drew.cell? (p33.add (t23.toNat * 5)) = some (.int .i64 x69) ∧ ∃ (x71 : Int), w68.drew.cell? (p9.add 1) = some (.int .i64 x71) ∧ New w68.drew 40 [.int .i64 x69, .int .i64 x71, .slice b_a63 b_n64 b_c65] (fun p73 w74 => ∃ (b_a75 : Option Addr) (b_n76 b_c77 : Nat) (w78 : World), (Builtin.append_ #[36, 36] 36 #[.slice out_a18 out_n19 out_c20, .slice (some p73) 1 1]).run Try.prog w74 = .ok (.slice b_a75 b_n76 b_c77) w78 ∧ nx24 b_a75 b_n76 b_c77 (IntKind.i64.wrap (t23 + 1)) w78)
def F14_b1 (x_n12 : Nat) (p9 : Addr) (p3 : Option Addr) (out_a18 : Option Addr) (out_n19 : Nat) (out_c20 : Nat) (t23 : Int) (w24 : World) (nx24 : Option Addr → Nat → Nat → Int → World → Prop) (k : Value → World → Prop) : Prop :=
  if t23 < (x_n12 : Int) then
  ∃ (x_a27 : Option Addr) (x_n28 x_c29 : Nat), w24.cell? (p9.add 2) = some (.slice x_a27 x_n28 x_c29) ∧ ∃ (p33 : Addr), x_a27 = some p33 ∧ (0 : Int) ≤ t23 ∧ t23 < (x_n28 : Int) ∧ ∃ (x35 : Bool), w24.drew.cell? ((p33.add (t23.toNat * 5)).add 2) = some (.bool x35) ∧ if (!x35) = true then
    nx24 out_a18 out_n19 out_c20 (IntKind.i64.wrap (t23 + 1)) w24.drew
  else
    ∃ (x38 : Int), w24.drew.cell? ((p33.add (t23.toNat * 5)).add 4) = some (.int .i64 x38) ∧ ∃ (x40 : Int), w24.drew.cell? (p9.add 1) = some (.int .i64 x40) ∧ if x40 < x38 then
      nx24 out_a18 out_n19 out_c20 (IntKind.i64.wrap (t23 + 1)) w24.drew
    else
      ∃ (x43 : Int), w24.drew.drew.cell? (p9.add 1) = some (.int .i64 x43) ∧ ∃ (x45 : Int), w24.drew.drew.cell? ((p33.add (t23.toNat * 5)).add 1) = some (.int .i64 x45) ∧ Put w24.drew.drew ((p33.add (t23.toNat * 5)).add 4) (.int .i64 (IntKind.i64.wrap (x43 + x45))) (fun w47 => ∃ (x_a49 : Option Addr) (x_n50 x_c51 : Nat), w47.cell? ((p33.add (t23.toNat * 5)).add 3) = some (.slice x_a49 x_n50 x_c51) ∧ Does Try.prog 27 #[.pointer p3, .slice x_a49 x_n50 x_c51] w47 (fun v w53 => ∃ (r_a54 : Option Addr) (r_n55 r_c56 : Nat) (r57 : Int), v = .tuple #[.slice r_a54 r_n55 r_c56, .int .i64 r57] ∧ if r57 ≠ 0 then
        F14_j2 p33 t23 p9 out_a18 out_n19 out_c20 none 0 0 w53 nx24
      else
        F14_j2 p33 t23 p9 out_a18 out_n19 out_c20 r_a54 r_n55 r_c56 w53 nx24))
else
  k (.slice out_a18 out_n19 out_c20) w24
/-- (*spacecraft hk.Service).Due -/
def F14 (s1 : Option Addr) (now2 : Int) (p3 : Option Addr) (w4 : World) (k : Value → World → Prop) : Prop :=
  Does Try.prog 20 #[.pointer s1] w4 (fun v w5 => ∃ (x6 : Bool), v = .bool x6 ∧ if (!x6) = true then
  k (.slice none 0 0) w5
else
  Does Try.prog 26 #[.pointer s1, .int .i64 now2] w5 (fun v w8 => v = .tuple #[] ∧ ∃ (p9 : Addr), s1 = some p9 ∧ ∃ (x_a11 : Option Addr) (x_n12 x_c13 : Nat), w8.cell? (p9.add 2) = some (.slice x_a11 x_n12 x_c13) ∧ LoopP (fun (s : Option Addr × Nat × Nat × Int) w' nx' => F14_b1 x_n12 p9 p3 (s.1) (s.2.1) (s.2.2.1) (s.2.2.2) w' (fun x0 x1 x2 x3 w => nx' (x0, x1, x2, x3) w) k) (none, 0, 0, 0) w8))
set_option maxRecDepth 100000 in
set_option maxHeartbeats 2000000 in
theorem w14 (s1 : Option Addr) (now2 : Int) (p3 : Option Addr) (w4 : World) (k : Value → World → Prop) (h : F14 s1 now2 p3 w4 k) : Does Try.prog 14 #[.pointer s1, .int .i64 now2, .pointer p3] w4 k := by
  refine enter 90 Try.func14 rfl rfl rfl ?_
  intro ρ hρ
  have e0 := hρ 0 _ rfl
  have e1 := hρ 1 _ rfl
  have e2 := hρ 2 _ rfl
  unfold F14 at h
  refine WC_seq ?_
  refine WC_region ?_
  refine WL_val gd0 ((o_assign (v := .slice none 0 0) rfl) _) rfl ?_
  refine WL_nil ?_
  refine nrm ?_
  refine WC_seq ?_
  refine WC_seq ?_
  refine WC_region ?_
  refine WL_val gd0 ((o_move (v := .pointer s1) (by exact e0)) _) rfl ?_
  refine WL_call gd0 (o_call Try.call20 (argCons rfl argNil) _) rfl (h.mono ?_)
  rintro _ w5 ⟨x6, rfl, h⟩
  refine WL_val gd0 ((o_not rfl) _) rfl ?_
  refine WL_nil ?_
  refine nrm ?_
  refine WC_cond (t := (!x6)) rfl (fun hb7 => ?_) (fun hb7 => ?_)
  · rw [if_pos hb7] at h
    refine WC_seq ?_
    refine WC_region ?_
    refine WL_val gd0 ((o_assign (v := .slice none 0 0) rfl) _) rfl ?_
    refine WL_nil ?_
    refine nrm ?_
    refine WC_ret ?_
    refine rtT ?_
    refine rtE ?_
    exact gv1 rfl rfl h
  · rw [if_neg (neT hb7)] at h
    refine WC_skip ?_
    refine nrm ?_
    refine WC_seq ?_
    refine WC_region ?_
    refine WL_val gd0 ((o_move (v := .pointer s1) (by exact e0)) _) rfl ?_
    refine WL_val gd0 ((o_move (v := .int .i64 now2) (by exact e1)) _) rfl ?_
    refine WL_call gd0 (o_call Try.call26 (argCons rfl (argCons rfl argNil)) _) rfl (h.mono ?_)
    rintro _ w8 ⟨rfl, h⟩
    refine WL_nil ?_
    refine nrm ?_
    refine WC_seq ?_
    refine WC_region ?_
    refine WL_val gd0 ((o_assign (v := .slice none 0 0) rfl) _) rfl ?_
    refine WL_nil ?_
    refine nrm ?_
    refine WC_seq ?_
    refine WC_seq ?_
    refine WC_region ?_
    refine WL_val gd0 ((o_move (v := .pointer s1) (by exact e0)) _) rfl ?_
    obtain ⟨p9, q10, h⟩ := h
    refine WL_val gd0 ((o_nilCheck (by exact (congrArg Value.pointer q10))) _) rfl ?_
    refine WL_val gd0 ((o_fieldAddr 2 Try.underlying47 rfl Try.sizeOf45 rfl rfl rfl) _) rfl ?_
    obtain ⟨x_a11, x_n12, x_c13, hc14, h⟩ := h
    refine WL_val gd0 (o_load Try.isAgg45 rfl hc14) rfl ?_
    refine WL_val gd0 ((o_len Try.underlying45 rfl) _) rfl ?_
    refine WL_val gd0 ((o_move (v := .int .i64 0) rfl) _) rfl ?_
    refine WL_nil ?_
    refine nrm ?_
    refine WC_block ?_
    obtain ⟨J24, ⟨n24, h0⟩, hr24⟩ := h
    refine WC_loop (fun n ρ w' => ∃ (out_a18 : Option Addr) (out_n19 out_c20 : Nat) (t23 : Int), ρ 7 = .slice out_a18 out_n19 out_c20 ∧ ρ 23 = .int .i64 t23 ∧ ρ 0 = .pointer s1 ∧ ρ 2 = .pointer p3 ∧ ρ 22 = .int .i64 (x_n12 : Int) ∧ J24 n (out_a18, out_n19, out_c20, t23) w') ⟨n24, _, _, _, _, rfl, rfl, e0, e2, rfl, h0⟩ ?_
    rintro n24 ρ w24 ⟨out_a18, out_n19, out_c20, t23, e7_17, e23_22, e0_15, e2_16, e22_21, h⟩
    have h : F14_b1 x_n12 p9 p3 out_a18 out_n19 out_c20 t23 w24 (fun x0 x1 x2 x3 w => ∃ m, m < n24 ∧ J24 m (x0, x1, x2, x3) w) k := hr24 n24 (out_a18, out_n19, out_c20, t23) w24 h
    unfold F14_b1 at h
    refine WC_seq ?_
    refine WC_region ?_
    refine WL_val gd0 ((o_lss (by exact e23_22) (by exact e22_21)) _) rfl ?_
    refine WL_nil ?_
    refine nrm ?_
    refine WC_seq ?_
    refine WC_cond (t := (decide (t23 < (x_n12 : Int)))) rfl (fun hb26 => ?_) (fun hb26 => ?_)
    · rw [if_pos (of_decide_eq_true hb26)] at h
      refine WC_skip ?_
      refine nrm ?_
      refine WC_seq ?_
      refine WC_block ?_
      refine WC_seq ?_
      refine WC_region ?_
      refine WL_val gd0 ((o_move (v := .int .i64 t23) (by exact e23_22)) _) rfl ?_
      refine WL_val gd0 ((o_assign (v := .int .i64 t23) rfl) _) rfl ?_
      refine WL_nil ?_
      refine nrm ?_
      refine WC_seq ?_
      refine WC_region ?_
      refine WL_val gd0 ((o_move (v := .pointer s1) (by exact e0_15)) _) rfl ?_
      refine WL_val gd0 ((o_nilCheck (by exact (congrArg Value.pointer q10))) _) rfl ?_
      refine WL_val gd0 ((o_fieldAddr 2 Try.underlying47 rfl Try.sizeOf45 rfl rfl rfl) _) rfl ?_
      obtain ⟨x_a27, x_n28, x_c29, hc30, h⟩ := h
      refine WL_val gd0 (o_load Try.isAgg45 rfl hc30) rfl ?_
      refine WL_val gd0 ((o_move (v := .int .i64 t23) rfl) _) rfl ?_
      obtain ⟨p33, q34, h⟩ := h
      obtain ⟨l31, u32, h⟩ := h
      refine WL_val gd0 ((o_indexAddr Try.underlying45 Try.sizeOf66 (by exact (congrArg (fun z => Value.slice z x_n28 x_c29) q34)) rfl l31 u32) _) rfl ?_
      refine WL_val gd0 ((o_assign (v := .pointer (some (p33.add (t23.toNat * 5)))) rfl) _) rfl ?_
      refine WL_nil ?_
      refine nrm ?_
      refine WC_seq ?_
      refine WC_seq ?_
      refine WC_draws [] (.look 0 (.look 1 (.look 2 (.look 3 (.look 4 (.look 5 (.look 6 (.look 7 (.look 8 (.look 9 (.look 10 (.look 11 (.look 12 (.look 13 (.look 14 (.look 15 (.look 16 .nil))))))))))))))))) Try.mixed (by kernel_rfl) ?_
      refine WQ_val rfl gd0 (o_move (v := .pointer (some (p33.add (t23.toNat * 5)))) rfl) rfl ?_
      refine WQ_val rfl gd0 (o_nilCheck rfl) rfl ?_
      refine WQ_val rfl gd0 (o_fieldAddr0 Try.underlying66 rfl Try.sizeOf31 rfl rfl rfl) rfl ?_
      refine WQ_val rfl gd0 (o_fieldAddr 2 Try.underlying31 rfl Try.sizeOf4 rfl rfl rfl) rfl ?_
      obtain ⟨x35, hc36, h⟩ := h
      refine WQ_look (fun w => w.cell? ((p33.add (t23.toNat * 5)).add 2) = some (.bool x35)) rfl gd0 (fun w hc => (o_load Try.isAgg4 rfl hc)) hc36 rfl ?_
      refine WQ_val rfl gd0 (o_not rfl) rfl ?_
      refine WQ_val rfl gd0 (o_move (v := .bool (!x35)) rfl) rfl ?_
      refine bsplit (!x35) (fun hb37 => ?_) (fun hb37 => ?_)
      · rw [if_pos hb37] at h
        refine WQ_skip rfl (gdN (b := (!x35)) 38 rfl rfl hb37) rfl ?_
        refine WQ_skip rfl (gdN (b := (!x35)) 38 rfl rfl hb37) rfl ?_
        refine WQ_skip rfl (gdN (b := (!x35)) 38 rfl rfl hb37) rfl ?_
        refine WQ_skip rfl (gdN (b := (!x35)) 38 rfl rfl hb37) rfl ?_
        refine WQ_skip rfl (gdN (b := (!x35)) 38 rfl rfl hb37) rfl ?_
        refine WQ_skip rfl (gdN (b := (!x35)) 38 rfl rfl hb37) rfl ?_
        refine WQ_skip rfl (gdN (b := (!x35)) 38 rfl rfl hb37) rfl ?_
        refine WQ_skip rfl (gdN (b := (!x35)) 38 rfl rfl hb37) rfl ?_
        refine WQ_skip rfl (gdN (b := (!x35)) 38 rfl rfl hb37) rfl ?_
        refine WQ_val rfl gd0 (o_pickT (v := .bool true) rfl hb37 rfl) rfl ?_
        refine WQ_nil ?_
        refine nrm ?_
        refine WC_cond (t := true) rfl (fun _ => ?_) (fun hx => by rw [(rfl : true = true)] at hx; cases hx)
        refine WC_exit ?_
        refine exT ?_
        refine exB ?_
        refine nrm ?_
        refine WC_region ?_
        refine WL_val gd0 ((o_add (by exact e23_22) rfl) _) rfl ?_
        refine WL_val gd0 ((o_move (v := .int .i64 (IntKind.i64.wrap (t23 + 1))) rfl) _) rfl ?_
        refine WL_nil ?_
        refine nrm ?_
        obtain ⟨m25, hm25, h⟩ := h
        exact ⟨m25, hm25, _, _, _, _, e7_17, rfl, e0_15, e2_16, e22_21, h⟩
      · rw [if_neg (neT hb37)] at h
        refine WQ_val rfl (gdY (b := (!x35)) 38 rfl rfl hb37) (o_move (v := .pointer (some (p33.add (t23.toNat * 5)))) rfl) rfl ?_
        refine WQ_val rfl (gdY (b := (!x35)) 38 rfl rfl hb37) (o_nilCheck rfl) rfl ?_
        refine WQ_val rfl (gdY (b := (!x35)) 38 rfl rfl hb37) (o_fieldAddr 4 Try.underlying66 rfl Try.sizeOf3 rfl rfl rfl) rfl ?_
        obtain ⟨x38, hc39, h⟩ := h
        refine WQ_look (fun w => w.cell? ((p33.add (t23.toNat * 5)).add 4) = some (.int .i64 x38)) rfl (gdY (b := (!x35)) 38 rfl rfl hb37) (fun w hc => (o_load Try.isAgg3 rfl hc)) hc39 rfl ?_
        refine WQ_val rfl (gdY (b := (!x35)) 38 rfl rfl hb37) (o_move (v := .pointer s1) (by exact e0_15)) rfl ?_
        refine WQ_val rfl (gdY (b := (!x35)) 38 rfl rfl hb37) (o_nilCheck (by exact (congrArg Value.pointer q10))) rfl ?_
        refine WQ_val rfl (gdY (b := (!x35)) 38 rfl rfl hb37) (o_fieldAddr 1 Try.underlying47 rfl Try.sizeOf3 rfl rfl rfl) rfl ?_
        obtain ⟨x40, hc41, h⟩ := h
        refine WQ_look (fun w => w.cell? (p9.add 1) = some (.int .i64 x40)) rfl (gdY (b := (!x35)) 38 rfl rfl hb37) (fun w hc => (o_load Try.isAgg3 rfl hc)) hc41 rfl ?_
        refine WQ_val rfl (gdY (b := (!x35)) 38 rfl rfl hb37) (o_gtr rfl rfl) rfl ?_
        refine WQ_val rfl gd0 (o_pickF (v := .bool (decide (x40 < x38))) rfl hb37 rfl) rfl ?_
        refine WQ_nil ?_
        refine nrm ?_
        refine WC_cond (t := (decide (x40 < x38))) rfl (fun hb42 => ?_) (fun hb42 => ?_)
        · rw [if_pos (of_decide_eq_true hb42)] at h
          refine WC_exit ?_
          refine exT ?_
          refine exB ?_
          refine nrm ?_
          refine WC_region ?_
          refine WL_val gd0 ((o_add (by exact e23_22) rfl) _) rfl ?_
          refine WL_val gd0 ((o_move (v := .int .i64 (IntKind.i64.wrap (t23 + 1))) rfl) _) rfl ?_
          refine WL_nil ?_
          refine nrm ?_
          obtain ⟨m25, hm25, h⟩ := h
          exact ⟨m25, hm25, _, _, _, _, e7_17, rfl, e0_15, e2_16, e22_21, h⟩
        · rw [if_neg (of_decide_eq_false hb42)] at h
          refine WC_skip ?_
          refine nrm ?_
          refine WC_seq ?_
          refine WC_draws [13] (.look 0 (.look 1 (.look 2 (.look 3 (.look 4 (.look 5 (.look 6 (.look 7 (.look 8 (.look 9 (.look 10 (.look 11 (.look 12 (.act 13 .nil)))))))))))))) Try.mixed (by kernel_rfl) ?_
          refine WQ_val rfl gd0 (o_move (v := .pointer (some (p33.add (t23.toNat * 5)))) rfl) rfl ?_
          refine WQ_val rfl gd0 (o_move (v := .pointer s1) (by exact e0_15)) rfl ?_
          refine WQ_val rfl gd0 (o_nilCheck (by exact (congrArg Value.pointer q10))) rfl ?_
          refine WQ_val rfl gd0 (o_fieldAddr 1 Try.underlying47 rfl Try.sizeOf3 rfl rfl rfl) rfl ?_
          obtain ⟨x43, hc44, h⟩ := h
          refine WQ_look (fun w => w.cell? (p9.add 1) = some (.int .i64 x43)) rfl gd0 (fun w hc => (o_load Try.isAgg3 rfl hc)) hc44 rfl ?_
          refine WQ_val rfl gd0 (o_move (v := .pointer (some (p33.add (t23.toNat * 5)))) rfl) rfl ?_
          refine WQ_val rfl gd0 (o_nilCheck rfl) rfl ?_
          refine WQ_val rfl gd0 (o_fieldAddr0 Try.underlying66 rfl Try.sizeOf31 rfl rfl rfl) rfl ?_
          refine WQ_val rfl gd0 (o_fieldAddr 1 Try.underlying31 rfl Try.sizeOf3 rfl rfl rfl) rfl ?_
          obtain ⟨x45, hc46, h⟩ := h
          refine WQ_look (fun w => w.cell? ((p33.add (t23.toNat * 5)).add 1) = some (.int .i64 x45)) rfl gd0 (fun w hc => (o_load Try.isAgg3 rfl hc)) hc46 rfl ?_
          refine WQ_val rfl gd0 (o_add rfl rfl) rfl ?_
          refine WQ_val rfl gd0 (o_nilCheck rfl) rfl ?_
          refine WQ_val rfl gd0 (o_fieldAddr 4 Try.underlying66 rfl Try.sizeOf3 rfl rfl rfl) rfl ?_
          obtain ⟨c48, h⟩ := h
          refine WQ_do rfl gd0 (o_store (v := .int .i64 (IntKind.i64.wrap (x43 + x45))) Try.sizeOf3 rfl rfl rfl c48) (by exact ⟨⟨trivial, depT (by kernel_rfl)⟩, depT (by kernel_rfl)⟩) ?_
          generalize hw47 : World.setCell w24.drew.drew ((p33.add (t23.toNat * 5)).add 4) (.int .i64 (IntKind.i64.wrap (x43 + x45))) = w47 at h ⊢
          try dsimp only at h
          refine WQ_nil ?_
          refine nrm ?_
          refine WC_seq ?_
          refine WC_region ?_
          refine WL_val gd0 ((o_move (v := .pointer p3) (by exact e2_16)) _) rfl ?_
          refine WL_val gd0 ((o_move (v := .pointer (some (p33.add (t23.toNat * 5)))) rfl) _) rfl ?_
          refine WL_val gd0 ((o_nilCheck rfl) _) rfl ?_
          refine WL_val gd0 ((o_fieldAddr0 Try.underlying66 rfl Try.sizeOf31 rfl rfl rfl) _) rfl ?_
          refine WL_val gd0 ((o_fieldAddr 3 Try.underlying31 rfl Try.sizeOf26 rfl rfl rfl) _) rfl ?_
          obtain ⟨x_a49, x_n50, x_c51, hc52, h⟩ := h
          refine WL_val gd0 (o_load Try.isAgg26 rfl hc52) rfl ?_
          refine WL_call gd0 (o_call Try.call27 (argCons rfl (argCons rfl argNil)) _) rfl (h.mono ?_)
          rintro _ w53 ⟨r_a54, r_n55, r_c56, r57, rfl, h⟩
          refine WL_val gd0 ((o_move (v := .tuple #[.slice r_a54 r_n55 r_c56, .int .i64 r57]) rfl) _) rfl ?_
          refine WL_val gd0 ((o_extract (vs := [.slice r_a54 r_n55 r_c56, .int .i64 r57]) (r := .slice r_a54 r_n55 r_c56) rfl rfl) _) rfl ?_
          refine WL_val gd0 ((o_extract (vs := [.slice r_a54 r_n55 r_c56, .int .i64 r57]) (r := .int .i64 r57) rfl rfl) _) rfl ?_
          refine WL_val gd0 ((o_assign (v := .slice r_a54 r_n55 r_c56) rfl) _) rfl ?_
          refine WL_val gd0 ((o_assign (v := .int .i64 r57) rfl) _) rfl ?_
          refine WL_nil ?_
          refine nrm ?_
          refine WC_cut (fun ρ w' => ∃ (b_a63 : Option Addr) (b_n64 b_c65 : Nat), ρ 10 = .slice b_a63 b_n64 b_c65 ∧ ρ 0 = .pointer s1 ∧ ρ 2 = .pointer p3 ∧ ρ 7 = .slice out_a18 out_n19 out_c20 ∧ ρ 9 = .pointer (some (p33.add (t23.toNat * 5))) ∧ ρ 22 = .int .i64 (x_n12 : Int) ∧ ρ 23 = .int .i64 t23 ∧ F14_j2 p33 t23 p9 out_a18 out_n19 out_c20 b_a63 b_n64 b_c65 w' (fun x0 x1 x2 x3 w => ∃ m, m < n24 ∧ J24 m (x0, x1, x2, x3) w)) ?_ ?_
          · refine WC_seq ?_
            refine WC_region ?_
            refine WL_val gd0 ((o_move (v := .int .i64 r57) rfl) _) rfl ?_
            refine WL_val gd0 ((o_neq rfl rfl) _) rfl ?_
            refine WL_nil ?_
            refine nrm ?_
            refine WC_cond (t := (decide (r57 ≠ 0))) rfl (fun hb80 => ?_) (fun hb80 => ?_)
            · rw [if_pos (of_decide_eq_true hb80)] at h
              refine WC_region ?_
              refine WL_val gd0 ((o_assign (v := .slice none 0 0) rfl) _) rfl ?_
              refine WL_nil ?_
              refine nrm ?_
              exact ⟨_, _, _, rfl, e0_15, e2_16, e7_17, rfl, e22_21, e23_22, h⟩
            · rw [if_neg (of_decide_eq_false hb80)] at h
              refine WC_skip ?_
              refine nrm ?_
              exact ⟨_, _, _, rfl, e0_15, e2_16, e7_17, rfl, e22_21, e23_22, h⟩
          · rintro ρ w68 ⟨b_a63, b_n64, b_c65, e10_62, e0_58, e2_59, e7_60, e9_61, e22_66, e23_67, h⟩
            unfold F14_j2 at h
            refine WC_draws [12, 13] (.look 0 (.look 1 (.look 2 (.look 3 (.look 4 (.look 5 (.look 6 (.look 7 (.look 8 (.look 9 (.look 10 (.look 11 (.act 12 (.act 13 (.look 14 .nil))))))))))))))) Try.mixed (by kernel_rfl) ?_
            refine WQ_val rfl gd0 (o_move (v := .slice out_a18 out_n19 out_c20) (by exact e7_60)) rfl ?_
            refine WQ_val rfl gd0 (o_move (v := .pointer (some (p33.add (t23.toNat * 5)))) (by exact e9_61)) rfl ?_
            refine WQ_val rfl gd0 (o_nilCheck rfl) rfl ?_
            refine WQ_val rfl gd0 (o_fieldAddr0 Try.underlying66 rfl Try.sizeOf31 rfl rfl rfl) rfl ?_
            refine WQ_val rfl gd0 (o_fieldAddr0 Try.underlying31 rfl Try.sizeOf3 rfl rfl rfl) rfl ?_
            obtain ⟨x69, hc70, h⟩ := h
            refine WQ_look (fun w => w.cell? (p33.add (t23.toNat * 5)) = some (.int .i64 x69)) rfl gd0 (fun w hc => (o_load Try.isAgg3 rfl hc)) hc70 rfl ?_
            refine WQ_val rfl gd0 (o_move (v := .pointer s1) (by exact e0_58)) rfl ?_
            refine WQ_val rfl gd0 (o_nilCheck (by exact (congrArg Value.pointer q10))) rfl ?_
            refine WQ_val rfl gd0 (o_fieldAddr 1 Try.underlying47 rfl Try.sizeOf3 rfl rfl rfl) rfl ?_
            obtain ⟨x71, hc72, h⟩ := h
            refine WQ_look (fun w => w.cell? (p9.add 1) = some (.int .i64 x71)) rfl gd0 (fun w hc => (o_load Try.isAgg3 rfl hc)) hc72 rfl ?_
            refine WQ_val rfl gd0 (o_move (v := .slice b_a63 b_n64 b_c65) (by exact e10_62)) rfl ?_
            refine WQ_val rfl gd0 (o_build (ps := [(0, .int .i64 x69), (1, .int .i64 x71), (2, .slice b_a63 b_n64 b_c65)]) (v := .agg #[.int .i64 x69, .int .i64 x71, .slice b_a63 b_n64 b_c65]) (partCons rfl (partCons rfl (partCons rfl partNil))) (fun w => by kernel_rfl)) rfl ?_
            have h := New.out h
            refine WQ_act rfl gd0 (o_buildSlice (e := 40) (ps := [(0, .agg #[.int .i64 x69, .int .i64 x71, .slice b_a63 b_n64 b_c65])]) (cs := [.int .i64 x69, .int .i64 x71, .slice b_a63 b_n64 b_c65]) (partCons rfl partNil) (fun w => by kernel_rfl)) rfl (by exact ⟨⟨trivial, depT (by kernel_rfl)⟩, depT (by kernel_rfl)⟩) ?_
            generalize hp73 : fresh w68.drew = p73 at h ⊢
            generalize hw74 : push w68.drew 40 [.int .i64 x69, .int .i64 x71, .slice b_a63 b_n64 b_c65] = w74 at h ⊢
            try dsimp only at h
            obtain ⟨b_a75, b_n76, b_c77, w78, r79, h⟩ := h
            refine WQ_act rfl gd0 (o_append rfl rfl r79) rfl (by exact ⟨⟨trivial, depT (by kernel_rfl)⟩, depT (by kernel_rfl)⟩) ?_
            refine WQ_val rfl gd0 (o_assign (v := .slice b_a75 b_n76 b_c77) rfl) rfl ?_
            refine WQ_nil ?_
            refine nrmB ?_
            refine nrm ?_
            refine WC_region ?_
            refine WL_val gd0 ((o_add (by exact e23_67) rfl) _) rfl ?_
            refine WL_val gd0 ((o_move (v := .int .i64 (IntKind.i64.wrap (t23 + 1))) rfl) _) rfl ?_
            refine WL_nil ?_
            refine nrm ?_
            obtain ⟨m25, hm25, h⟩ := h
            exact ⟨m25, hm25, _, _, _, _, rfl, rfl, e0_58, e2_59, e22_66, h⟩
    · rw [if_neg (of_decide_eq_false hb26)] at h
      refine WC_exit ?_
      refine exT ?_
      refine exT ?_
      refine exB ?_
      refine nrm ?_
      refine WC_seq ?_
      refine WC_region ?_
      refine WL_val gd0 ((o_move (v := .slice out_a18 out_n19 out_c20) (by exact e7_17)) _) rfl ?_
      refine WL_val gd0 ((o_assign (v := .slice out_a18 out_n19 out_c20) rfl) _) rfl ?_
      refine WL_nil ?_
      refine nrm ?_
      refine WC_ret ?_
      refine rtE ?_
      exact gv1 rfl rfl h

/-- (*spacecraft hk.Service).Clone -/
def F15 (s1 : Option Addr) (w2 : World) (k : Value → World → Prop) : Prop :=
  Does Try.prog 20 #[.pointer s1] w2 (fun v w3 => ∃ (x4 : Bool), v = .bool x4 ∧ if (!x4) = true then
  k (.pointer none) w3
else
  ∃ (p6 : Addr), s1 = some p6 ∧ ∃ (x8 : Bool) (x9 : Int) (x_a10 : Option Addr) (x_n11 x_c12 : Nat), Cells w3 p6 0 [.bool x8, .int .i64 x9, .slice x_a10 x_n11 x_c12] ∧ New w3 47 [.bool false, .int .i64 0, .slice none 0 0] (fun p14 w15 => PutAll w15 p14 [.bool x8, .int .i64 x9, .slice x_a10 x_n11 x_c12] (fun w16 => ∃ (x_a18 : Option Addr) (x_n19 x_c20 : Nat), w16.cell? (p6.add 2) = some (.slice x_a18 x_n19 x_c20) ∧ Does Try.prog 28 #[.slice x_a18 x_n19 x_c20] w16 (fun v w22 => ∃ (x_a23 : Option Addr) (x_n24 x_c25 : Nat), v = .slice x_a23 x_n24 x_c25 ∧ Put w22 (p14.add 2) (.slice x_a23 x_n24 x_c25) (fun w26 => k (.pointer (some p14)) w26)))))
set_option maxRecDepth 100000 in
set_option maxHeartbeats 2000000 in
theorem w15 (s1 : Option Addr) (w2 : World) (k : Value → World → Prop) (h : F15 s1 w2 k) : Does Try.prog 15 #[.pointer s1] w2 k := by
  refine enter 16 Try.func15 rfl rfl rfl ?_
  intro ρ hρ
  have e0 := hρ 0 _ rfl
  unfold F15 at h
  refine WC_seq ?_
  refine WC_region ?_
  refine WL_val gd0 ((o_assign (v := .pointer none) rfl) _) rfl ?_
  refine WL_nil ?_
  refine nrm ?_
  refine WC_seq ?_
  refine WC_seq ?_
  refine WC_region ?_
  refine WL_val gd0 ((o_move (v := .pointer s1) (by exact e0)) _) rfl ?_
  refine WL_call gd0 (o_call Try.call20 (argCons rfl argNil) _) rfl (h.mono ?_)
  rintro _ w3 ⟨x4, rfl, h⟩
  refine WL_val gd0 ((o_not rfl) _) rfl ?_
  refine WL_nil ?_
  refine nrm ?_
  refine WC_cond (t := (!x4)) rfl (fun hb5 => ?_) (fun hb5 => ?_)
  · rw [if_pos hb5] at h
    refine WC_seq ?_
    refine WC_region ?_
    refine WL_val gd0 ((o_assign (v := .pointer none) rfl) _) rfl ?_
    refine WL_nil ?_
    refine nrm ?_
    refine WC_ret ?_
    refine rtT ?_
    refine rtE ?_
    exact gv1 rfl rfl h
  · rw [if_neg (neT hb5)] at h
    refine WC_skip ?_
    refine nrm ?_
    refine WC_seq ?_
    refine WC_region ?_
    refine WL_val gd0 ((o_move (v := .pointer s1) (by exact e0)) _) rfl ?_
    obtain ⟨p6, q7, h⟩ := h
    refine WL_val gd0 ((o_nilCheck (by exact (congrArg Value.pointer q7))) _) rfl ?_
    obtain ⟨x8, x9, x_a10, x_n11, x_c12, hc13, h⟩ := h
    refine WL_val gd0 (o_loadAgg (vs := [.bool x8, .int .i64 x9, .slice x_a10 x_n11 x_c12]) Try.isAgg47 Try.sizeOf47 rfl hc13) rfl ?_
    have h := New.out h
    refine WL_val gd0 (o_alloc (z := .agg #[.bool false, .int .i64 0, .slice none 0 0]) (cs := [.bool false, .int .i64 0, .slice none 0 0]) Try.zeroValue47 rfl) rfl ?_
    generalize hp14 : fresh w3 = p14 at h ⊢
    generalize hw15 : push w3 47 [.bool false, .int .i64 0, .slice none 0 0] = w15 at h ⊢
    try dsimp only at h
    obtain ⟨c17, h⟩ := h
    refine WL_act gd0 (o_storeAgg (vs := [.bool x8, .int .i64 x9, .slice x_a10 x_n11 x_c12]) Try.sizeOf47 rfl rfl rfl c17) ?_
    generalize hw16 : setAll w15 p14 0 [.bool x8, .int .i64 x9, .slice x_a10 x_n11 x_c12] = w16 at h ⊢
    try dsimp only at h
    refine WL_nil ?_
    refine nrm ?_
    refine WC_seq ?_
    refine WC_region ?_
    refine WL_val gd0 ((o_move (v := .pointer s1) (by exact e0)) _) rfl ?_
    refine WL_val gd0 ((o_nilCheck (by exact (congrArg Value.pointer q7))) _) rfl ?_
    refine WL_val gd0 ((o_fieldAddr 2 Try.underlying47 rfl Try.sizeOf45 rfl rfl rfl) _) rfl ?_
    obtain ⟨x_a18, x_n19, x_c20, hc21, h⟩ := h
    refine WL_val gd0 (o_load Try.isAgg45 rfl hc21) rfl ?_
    refine WL_call gd0 (o_call Try.call28 (argCons rfl argNil) _) rfl (h.mono ?_)
    rintro _ w22 ⟨x_a23, x_n24, x_c25, rfl, h⟩
    refine WL_val gd0 ((o_fieldAddr 2 Try.underlying47 rfl Try.sizeOf45 rfl rfl rfl) _) rfl ?_
    obtain ⟨c27, h⟩ := h
    refine WL_act gd0 (o_store (v := .slice x_a23 x_n24 x_c25) Try.sizeOf45 rfl rfl rfl c27) ?_
    generalize hw26 : World.setCell w22 (p14.add 2) (.slice x_a23 x_n24 x_c25) = w26 at h ⊢
    try dsimp only at h
    refine WL_nil ?_
    refine nrm ?_
    refine WC_seq ?_
    refine WC_region ?_
    refine WL_val gd0 ((o_assign (v := .pointer (some p14)) rfl) _) rfl ?_
    refine WL_nil ?_
    refine nrm ?_
    refine WC_ret ?_
    refine rtE ?_
    exact gv1 rfl rfl h

def F16_b1 (l_n2 : Nat) (l_a1 : Option Addr) (i7 : Int) (w8 : World) (k : Value → World → Prop) (nx8 : Int → World → Prop) : Prop :=
  if i7 < (l_n2 : Int) then
  ∃ (p13 : Addr), l_a1 = some p13 ∧ (0 : Int) ≤ i7 ∧ i7 < (l_n2 : Int) ∧ ∃ (x_a15 : Option Addr) (x_n16 x_c17 : Nat), w8.cell? ((p13.add (i7.toNat * 6)).add 5) = some (.slice x_a15 x_n16 x_c17) ∧ if 300 < (x_n16 : Int) then
    k (.bool false) w8
  else
    nx8 (IntKind.i64.wrap (i7 + 1)) w8
else
  k (.bool (decide ((l_n2 : Int) ≤ 60))) w8
/-- spacecraft spacecraftlaw34.small -/
def F16 (l_a1 : Option Addr) (l_n2 : Nat) (l_c3 : Nat) (w4 : World) (k : Value → World → Prop) : Prop :=
  LoopP (fun (s : Int) w' nx' => F16_b1 l_n2 l_a1 s w' k (fun x0 w => nx' x0 w)) 0 w4
set_option maxRecDepth 100000 in
set_option maxHeartbeats 2000000 in
theorem w16 (l_a1 : Option Addr) (l_n2 : Nat) (l_c3 : Nat) (w4 : World) (k : Value → World → Prop) (h : F16 l_a1 l_n2 l_c3 w4 k) : Does Try.prog 16 #[.slice l_a1 l_n2 l_c3] w4 k := by
  refine enter 20 Try.func16 rfl rfl rfl ?_
  intro ρ hρ
  have e0 := hρ 0 _ rfl
  unfold F16 at h
  refine WC_seq ?_
  refine WC_region ?_
  refine WL_val gd0 ((o_assign (v := .bool false) rfl) _) rfl ?_
  refine WL_nil ?_
  refine nrm ?_
  refine WC_seq ?_
  refine WC_seq ?_
  refine WC_region ?_
  refine WL_val gd0 ((o_assign (v := .int .i64 0) rfl) _) rfl ?_
  refine WL_nil ?_
  refine nrm ?_
  refine WC_block ?_
  obtain ⟨J8, ⟨n8, h0⟩, hr8⟩ := h
  refine WC_loop (fun n ρ w' => ∃ (i7 : Int), ρ 3 = .int .i64 i7 ∧ ρ 0 = .slice l_a1 l_n2 l_c3 ∧ J8 n i7 w') ⟨n8, _, rfl, e0, h0⟩ ?_
  rintro n8 ρ w8 ⟨i7, e3_6, e0_5, h⟩
  have h : F16_b1 l_n2 l_a1 i7 w8 k (fun x0 w => ∃ m, m < n8 ∧ J8 m x0 w) := hr8 n8 i7 w8 h
  unfold F16_b1 at h
  refine WC_seq ?_
  refine WC_seq ?_
  refine WC_region ?_
  refine WL_val gd0 ((o_move (v := .int .i64 i7) (by exact e3_6)) _) rfl ?_
  refine WL_val gd0 ((o_move (v := .slice l_a1 l_n2 l_c3) (by exact e0_5)) _) rfl ?_
  refine WL_val gd0 ((o_len Try.underlying44 rfl) _) rfl ?_
  refine WL_val gd0 ((o_lss rfl rfl) _) rfl ?_
  refine WL_nil ?_
  refine nrm ?_
  refine WC_cond (t := (decide (i7 < (l_n2 : Int)))) rfl (fun hb10 => ?_) (fun hb10 => ?_)
  · rw [if_pos (of_decide_eq_true hb10)] at h
    refine WC_skip ?_
    refine nrm ?_
    refine WC_seq ?_
    refine WC_block ?_
    refine WC_seq ?_
    refine WC_region ?_
    refine WL_val gd0 ((o_move (v := .slice l_a1 l_n2 l_c3) (by exact e0_5)) _) rfl ?_
    refine WL_val gd0 ((o_move (v := .int .i64 i7) (by exact e3_6)) _) rfl ?_
    obtain ⟨p13, q14, h⟩ := h
    obtain ⟨l11, u12, h⟩ := h
    refine WL_val gd0 ((o_indexAddr Try.underlying44 Try.sizeOf54 (by exact (congrArg (fun z => Value.slice z l_n2 l_c3) q14)) rfl l11 u12) _) rfl ?_
    refine WL_val gd0 ((o_fieldAddr 5 Try.underlying54 rfl Try.sizeOf26 rfl rfl rfl) _) rfl ?_
    obtain ⟨x_a15, x_n16, x_c17, hc18, h⟩ := h
    refine WL_val gd0 (o_load Try.isAgg26 rfl hc18) rfl ?_
    refine WL_val gd0 ((o_len Try.underlying26 rfl) _) rfl ?_
    refine WL_val gd0 ((o_gtr rfl rfl) _) rfl ?_
    refine WL_nil ?_
    refine nrm ?_
    refine WC_cond (t := (decide (300 < (x_n16 : Int)))) rfl (fun hb19 => ?_) (fun hb19 => ?_)
    · rw [if_pos (of_decide_eq_true hb19)] at h
      refine WC_seq ?_
      refine WC_region ?_
      refine WL_val gd0 ((o_assign (v := .bool false) rfl) _) rfl ?_
      refine WL_nil ?_
      refine nrm ?_
      refine WC_ret ?_
      refine rtB ?_
      refine rtT ?_
      refine rtT ?_
      refine rtB ?_
      refine rtT ?_
      refine rtE ?_
      exact gv1 rfl rfl h
    · rw [if_neg (of_decide_eq_false hb19)] at h
      refine WC_skip ?_
      refine nrmB ?_
      refine nrm ?_
      refine WC_region ?_
      refine WL_val gd0 ((o_move (v := .int .i64 i7) (by exact e3_6)) _) rfl ?_
      refine WL_val gd0 ((o_add rfl rfl) _) rfl ?_
      refine WL_val gd0 ((o_assign (v := .int .i64 (IntKind.i64.wrap (i7 + 1))) rfl) _) rfl ?_
      refine WL_nil ?_
      refine nrm ?_
      obtain ⟨m9, hm9, h⟩ := h
      exact ⟨m9, hm9, _, rfl, e0_5, h⟩
  · rw [if_neg (of_decide_eq_false hb10)] at h
    refine WC_exit ?_
    refine exT ?_
    refine exT ?_
    refine exB ?_
    refine nrm ?_
    refine WC_seq ?_
    refine WC_region ?_
    refine WL_val gd0 ((o_move (v := .slice l_a1 l_n2 l_c3) (by exact e0_5)) _) rfl ?_
    refine WL_val gd0 ((o_len Try.underlying44 rfl) _) rfl ?_
    refine WL_val gd0 ((o_leq rfl rfl) _) rfl ?_
    refine WL_val gd0 ((o_assign (v := .bool (decide ((l_n2 : Int) ≤ 60))) rfl) _) rfl ?_
    refine WL_nil ?_
    refine nrm ?_
    refine WC_ret ?_
    refine rtE ?_
    exact gv1 rfl rfl h

/-- spacecraft spacecraftlaw34.step -/
def F17 (s1 : Option Addr) (x2 : Option Addr) (l3 : Int) (l4 : Int) (l5 : Int) (l6 : Int) (l7 : Bool) (l_a8 : Option Addr) (l_n9 : Nat) (l_c10 : Nat) (p11 : Option Addr) (w12 : World) (k : Value → World → Prop) : Prop :=
  New w12 54 [.int .u8 l3, .int .i64 l4, .int .i64 l5, .int .i64 l6, .bool l7, .slice l_a8 l_n9 l_c10] (fun p13 w14 => ∃ (x15 : Int), w14.cell? p13 = some (.int .u8 x15) ∧ if (Int.tmod x15 4) = 1 then
  ∃ (x18 : Int), w14.drew.cell? (p13.add 1) = some (.int .i64 x18) ∧ ∃ (x20 : Int), w14.drew.cell? (p13.add 2) = some (.int .i64 x20) ∧ ∃ (x_a22 : Option Addr) (x_n23 x_c24 : Nat), w14.drew.cell? (p13.add 5) = some (.slice x_a22 x_n23 x_c24) ∧ ∃ (x26 : Int), w14.drew.cell? (p13.add 1) = some (.int .i64 x26) ∧ ∃ (x28 : Int), w14.drew.cell? (p13.add 2) = some (.int .i64 x28) ∧ ∃ (x_a30 : Option Addr) (x_n31 x_c32 : Nat), w14.drew.cell? (p13.add 5) = some (.slice x_a30 x_n31 x_c32) ∧ Does Try.prog 9 #[.pointer s1, .int .i64 x18, .int .i64 x20, .slice x_a22 x_n23 x_c24] w14.drew (fun v w34 => ∃ (x35 : Int), v = .int .i64 x35 ∧ w34.cell? (p13.add 1) = some (.int .i64 x26) ∧ w34.cell? (p13.add 2) = some (.int .i64 x28) ∧ w34.cell? (p13.add 5) = some (.slice x_a30 x_n31 x_c32) ∧ Does Try.prog 29 #[.pointer x2, .int .i64 x26, .int .i64 x28, .slice x_a30 x_n31 x_c32] w34 (fun v w39 => ∃ (x40 : Int), v = .int .i64 x40 ∧ k (.bool (decide (x35 = x40))) w39))
else
  if (Int.tmod x15 4) = 2 then
    ∃ (x42 : Int), w14.drew.cell? (p13.add 1) = some (.int .i64 x42) ∧ ∃ (x44 : Bool), w14.drew.cell? (p13.add 4) = some (.bool x44) ∧ ∃ (x46 : Int), w14.drew.cell? (p13.add 3) = some (.int .i64 x46) ∧ ∃ (x48 : Int), w14.drew.cell? (p13.add 1) = some (.int .i64 x48) ∧ ∃ (x50 : Bool), w14.drew.cell? (p13.add 4) = some (.bool x50) ∧ ∃ (x52 : Int), w14.drew.cell? (p13.add 3) = some (.int .i64 x52) ∧ Does Try.prog 13 #[.pointer s1, .int .i64 x42, .bool x44, .int .i64 x46] w14.drew (fun v w54 => ∃ (x55 : Int), v = .int .i64 x55 ∧ w54.cell? (p13.add 1) = some (.int .i64 x48) ∧ w54.cell? (p13.add 4) = some (.bool x50) ∧ w54.cell? (p13.add 3) = some (.int .i64 x52) ∧ Does Try.prog 30 #[.pointer x2, .int .i64 x48, .bool x50, .int .i64 x52] w54 (fun v w59 => ∃ (x60 : Int), v = .int .i64 x60 ∧ k (.bool (decide (x55 = x60))) w59))
  else
    if (Int.tmod x15 4) = 3 then
      ∃ (x62 : Int), w14.drew.cell? (p13.add 1) = some (.int .i64 x62) ∧ ∃ (x64 : Int), w14.drew.cell? (p13.add 1) = some (.int .i64 x64) ∧ Does Try.prog 10 #[.pointer s1, .int .i64 x62] w14.drew (fun v w66 => ∃ (x67 : Int), v = .int .i64 x67 ∧ w66.cell? (p13.add 1) = some (.int .i64 x64) ∧ Does Try.prog 31 #[.pointer x2, .int .i64 x64] w66 (fun v w69 => ∃ (x70 : Int), v = .int .i64 x70 ∧ k (.bool (decide (x67 = x70))) w69))
    else
      ∃ (x71 : Int), w14.cell? (p13.add 3) = some (.int .i64 x71) ∧ Does Try.prog 14 #[.pointer s1, .int .i64 x71, .pointer p11] w14 (fun v w73 => ∃ (a_a74 : Option Addr) (a_n75 a_c76 : Nat), v = .slice a_a74 a_n75 a_c76 ∧ ∃ (x77 : Int), w73.cell? (p13.add 3) = some (.int .i64 x77) ∧ Does Try.prog 32 #[.pointer x2, .int .i64 x77] w73 (fun v w79 => ∃ (b_a80 : Option Addr) (b_n81 b_c82 : Nat), v = .slice b_a80 b_n81 b_c82 ∧ ∃ (p83 : Addr), x2 = some p83 ∧ ∃ (x85 : Int), w79.cell? (p83.add 2) = some (.int .i64 x85) ∧ Does Try.prog 33 #[.slice a_a74 a_n75 a_c76, .slice b_a80 b_n81 b_c82, .int .i64 x85, .pointer p11] w79 (fun v w87 => ∃ (t88 : Bool), v = .bool t88 ∧ k (.bool t88) w87))))
set_option maxRecDepth 100000 in
set_option maxHeartbeats 2000000 in
theorem w17 (s1 : Option Addr) (x2 : Option Addr) (l3 : Int) (l4 : Int) (l5 : Int) (l6 : Int) (l7 : Bool) (l_a8 : Option Addr) (l_n9 : Nat) (l_c10 : Nat) (p11 : Option Addr) (w12 : World) (k : Value → World → Prop) (h : F17 s1 x2 l3 l4 l5 l6 l7 l_a8 l_n9 l_c10 p11 w12 k) : Does Try.prog 17 #[.pointer s1, .pointer x2, .agg #[.int .u8 l3, .int .i64 l4, .int .i64 l5, .int .i64 l6, .bool l7, .slice l_a8 l_n9 l_c10], .pointer p11] w12 k := by
  refine enter 80 Try.func17 rfl rfl rfl ?_
  intro ρ hρ
  have e0 := hρ 0 _ rfl
  have e1 := hρ 1 _ rfl
  have e2 := hρ 2 _ rfl
  have e3 := hρ 3 _ rfl
  unfold F17 at h
  refine WC_seq ?_
  refine WC_region ?_
  have h := New.out h
  refine WL_val gd0 (o_box (v := .agg #[.int .u8 l3, .int .i64 l4, .int .i64 l5, .int .i64 l6, .bool l7, .slice l_a8 l_n9 l_c10]) (cs := [.int .u8 l3, .int .i64 l4, .int .i64 l5, .int .i64 l6, .bool l7, .slice l_a8 l_n9 l_c10]) (by exact e2) rfl) rfl ?_
  generalize hp13 : fresh w12 = p13 at h ⊢
  generalize hw14 : push w12 54 [.int .u8 l3, .int .i64 l4, .int .i64 l5, .int .i64 l6, .bool l7, .slice l_a8 l_n9 l_c10] = w14 at h ⊢
  try dsimp only at h
  refine WL_val gd0 ((o_assign (v := .bool false) rfl) _) rfl ?_
  refine WL_nil ?_
  refine nrm ?_
  refine WC_seq ?_
  refine WC_seq ?_
  refine WC_region ?_
  refine WL_val gd0 ((o_fieldAddr0 Try.underlying54 rfl Try.sizeOf5 rfl rfl rfl) _) rfl ?_
  obtain ⟨x15, hc16, h⟩ := h
  refine WL_val gd0 (o_load Try.isAgg5 rfl hc16) rfl ?_
  refine WL_val gd0 ((fun w => o_rem rfl rfl w (by decide)) _) rfl ?_
  refine WL_nil ?_
  refine nrm ?_
  refine WC_block ?_
  refine WC_seq ?_
  refine WC_region ?_
  refine WL_val gd0 ((o_eql rfl rfl) _) rfl ?_
  refine WL_val gd0 ((o_assign (v := .bool (decide ((Int.tmod x15 4) = 1))) rfl) _) rfl ?_
  refine WL_nil ?_
  refine nrm ?_
  refine WC_cond (t := (decide ((Int.tmod x15 4) = 1))) rfl (fun hb17 => ?_) (fun hb17 => ?_)
  · rw [if_pos (of_decide_eq_true hb17)] at h
    refine WC_seq ?_
    refine WC_draws [7, 15] (.look 0 (.look 1 (.look 2 (.look 3 (.look 4 (.look 5 (.look 6 (.look 8 (.look 9 (.look 10 (.look 11 (.look 12 (.look 13 (.look 14 (.act 7 (.act 15 (.look 16 (.look 17 .nil)))))))))))))))))) Try.mixed (by kernel_rfl) ?_
    refine WQ_val rfl gd0 (o_move (v := .pointer s1) (by exact e0)) rfl ?_
    refine WQ_val rfl gd0 (o_fieldAddr 1 Try.underlying54 rfl Try.sizeOf3 rfl rfl rfl) rfl ?_
    obtain ⟨x18, hc19, h⟩ := h
    refine WQ_look (fun w => w.cell? (p13.add 1) = some (.int .i64 x18)) rfl gd0 (fun w hc => (o_load Try.isAgg3 rfl hc)) hc19 rfl ?_
    refine WQ_val rfl gd0 (o_fieldAddr 2 Try.underlying54 rfl Try.sizeOf3 rfl rfl rfl) rfl ?_
    obtain ⟨x20, hc21, h⟩ := h
    refine WQ_look (fun w => w.cell? (p13.add 2) = some (.int .i64 x20)) rfl gd0 (fun w hc => (o_load Try.isAgg3 rfl hc)) hc21 rfl ?_
    refine WQ_val rfl gd0 (o_fieldAddr 5 Try.underlying54 rfl Try.sizeOf26 rfl rfl rfl) rfl ?_
    obtain ⟨x_a22, x_n23, x_c24, hc25, h⟩ := h
    refine WQ_look (fun w => w.cell? (p13.add 5) = some (.slice x_a22 x_n23 x_c24)) rfl gd0 (fun w hc => (o_load Try.isAgg26 rfl hc)) hc25 rfl ?_
    refine WQ_val rfl gd0 (o_move (v := .pointer x2) (by exact e1)) rfl ?_
    refine WQ_val rfl gd0 (o_fieldAddr 1 Try.underlying54 rfl Try.sizeOf3 rfl rfl rfl) rfl ?_
    obtain ⟨x26, hc27, h⟩ := h
    refine WQ_look (fun w => w.cell? (p13.add 1) = some (.int .i64 x26)) rfl gd0 (fun w hc => (o_load Try.isAgg3 rfl hc)) hc27 rfl ?_
    refine WQ_val rfl gd0 (o_fieldAddr 2 Try.underlying54 rfl Try.sizeOf3 rfl rfl rfl) rfl ?_
    obtain ⟨x28, hc29, h⟩ := h
    refine WQ_look (fun w => w.cell? (p13.add 2) = some (.int .i64 x28)) rfl gd0 (fun w hc => (o_load Try.isAgg3 rfl hc)) hc29 rfl ?_
    refine WQ_val rfl gd0 (o_fieldAddr 5 Try.underlying54 rfl Try.sizeOf26 rfl rfl rfl) rfl ?_
    obtain ⟨x_a30, x_n31, x_c32, hc33, h⟩ := h
    refine WQ_look (fun w => w.cell? (p13.add 5) = some (.slice x_a30 x_n31 x_c32)) rfl gd0 (fun w hc => (o_load Try.isAgg26 rfl hc)) hc33 rfl ?_
    refine WQ_call rfl gd0 (o_call Try.call9 (argCons rfl (argCons rfl (argCons rfl (argCons rfl argNil)))) _) rfl (h.mono ?_)
    rintro _ w34 ⟨x35, rfl, hh36, hh37, hh38, h⟩
    refine ⟨⟨⟨⟨⟨⟨⟨trivial, depT (by kernel_rfl)⟩, depT (by kernel_rfl)⟩, depT (by kernel_rfl)⟩, fun _ => hh36⟩, fun _ => hh37⟩, fun _ => hh38⟩, ?_⟩
    refine WQ_call rfl gd0 (o_call Try.call29 (argCons rfl (argCons rfl (argCons rfl (argCons rfl argNil)))) _) rfl (h.mono ?_)
    rintro _ w39 ⟨x40, rfl, h⟩
    refine ⟨⟨⟨⟨⟨⟨⟨trivial, depT (by kernel_rfl)⟩, depT (by kernel_rfl)⟩, depT (by kernel_rfl)⟩, depT (by kernel_rfl)⟩, depT (by kernel_rfl)⟩, depT (by kernel_rfl)⟩, ?_⟩
    refine WQ_val rfl gd0 (o_eql rfl rfl) rfl ?_
    refine WQ_val rfl gd0 (o_assign (v := .bool (decide (x35 = x40))) rfl) rfl ?_
    refine WQ_nil ?_
    refine nrm ?_
    refine WC_ret ?_
    refine rtB ?_
    refine rtT ?_
    refine rtE ?_
    exact gv1 rfl rfl h
  · rw [if_neg (of_decide_eq_false hb17)] at h
    refine WC_seq ?_
    refine WC_region ?_
    refine WL_val gd0 ((o_eql rfl rfl) _) rfl ?_
    refine WL_val gd0 ((o_assign (v := .bool (decide ((Int.tmod x15 4) = 2))) rfl) _) rfl ?_
    refine WL_nil ?_
    refine nrm ?_
    refine WC_cond (t := (decide ((Int.tmod x15 4) = 2))) rfl (fun hb41 => ?_) (fun hb41 => ?_)
    · rw [if_pos (of_decide_eq_true hb41)] at h
      refine WC_seq ?_
      refine WC_draws [7, 15] (.look 0 (.look 1 (.look 2 (.look 3 (.look 4 (.look 5 (.look 6 (.look 8 (.look 9 (.look 10 (.look 11 (.look 12 (.look 13 (.look 14 (.act 7 (.act 15 (.look 16 (.look 17 .nil)))))))))))))))))) Try.mixed (by kernel_rfl) ?_
      refine WQ_val rfl gd0 (o_move (v := .pointer s1) (by exact e0)) rfl ?_
      refine WQ_val rfl gd0 (o_fieldAddr 1 Try.underlying54 rfl Try.sizeOf3 rfl rfl rfl) rfl ?_
      obtain ⟨x42, hc43, h⟩ := h
      refine WQ_look (fun w => w.cell? (p13.add 1) = some (.int .i64 x42)) rfl gd0 (fun w hc => (o_load Try.isAgg3 rfl hc)) hc43 rfl ?_
      refine WQ_val rfl gd0 (o_fieldAddr 4 Try.underlying54 rfl Try.sizeOf4 rfl rfl rfl) rfl ?_
      obtain ⟨x44, hc45, h⟩ := h
      refine WQ_look (fun w => w.cell? (p13.add 4) = some (.bool x44)) rfl gd0 (fun w hc => (o_load Try.isAgg4 rfl hc)) hc45 rfl ?_
      refine WQ_val rfl gd0 (o_fieldAddr 3 Try.underlying54 rfl Try.sizeOf3 rfl rfl rfl) rfl ?_
      obtain ⟨x46, hc47, h⟩ := h
      refine WQ_look (fun w => w.cell? (p13.add 3) = some (.int .i64 x46)) rfl gd0 (fun w hc => (o_load Try.isAgg3 rfl hc)) hc47 rfl ?_
      refine WQ_val rfl gd0 (o_move (v := .pointer x2) (by exact e1)) rfl ?_
      refine WQ_val rfl gd0 (o_fieldAddr 1 Try.underlying54 rfl Try.sizeOf3 rfl rfl rfl) rfl ?_
      obtain ⟨x48, hc49, h⟩ := h
      refine WQ_look (fun w => w.cell? (p13.add 1) = some (.int .i64 x48)) rfl gd0 (fun w hc => (o_load Try.isAgg3 rfl hc)) hc49 rfl ?_
      refine WQ_val rfl gd0 (o_fieldAddr 4 Try.underlying54 rfl Try.sizeOf4 rfl rfl rfl) rfl ?_
      obtain ⟨x50, hc51, h⟩ := h
      refine WQ_look (fun w => w.cell? (p13.add 4) = some (.bool x50)) rfl gd0 (fun w hc => (o_load Try.isAgg4 rfl hc)) hc51 rfl ?_
      refine WQ_val rfl gd0 (o_fieldAddr 3 Try.underlying54 rfl Try.sizeOf3 rfl rfl rfl) rfl ?_
      obtain ⟨x52, hc53, h⟩ := h
      refine WQ_look (fun w => w.cell? (p13.add 3) = some (.int .i64 x52)) rfl gd0 (fun w hc => (o_load Try.isAgg3 rfl hc)) hc53 rfl ?_
      refine WQ_call rfl gd0 (o_call Try.call13 (argCons rfl (argCons rfl (argCons rfl (argCons rfl argNil)))) _) rfl (h.mono ?_)
      rintro _ w54 ⟨x55, rfl, hh56, hh57, hh58, h⟩
      refine ⟨⟨⟨⟨⟨⟨⟨trivial, depT (by kernel_rfl)⟩, depT (by kernel_rfl)⟩, depT (by kernel_rfl)⟩, fun _ => hh56⟩, fun _ => hh57⟩, fun _ => hh58⟩, ?_⟩
      refine WQ_call rfl gd0 (o_call Try.call30 (argCons rfl (argCons rfl (argCons rfl (argCons rfl argNil)))) _) rfl (h.mono ?_)
      rintro _ w59 ⟨x60, rfl, h⟩
      refine ⟨⟨⟨⟨⟨⟨⟨trivial, depT (by kernel_rfl)⟩, depT (by kernel_rfl)⟩, depT (by kernel_rfl)⟩, depT (by kernel_rfl)⟩, depT (by kernel_rfl)⟩, depT (by kernel_rfl)⟩, ?_⟩
      refine WQ_val rfl gd0 (o_eql rfl rfl) rfl ?_
      refine WQ_val rfl gd0 (o_assign (v := .bool (decide (x55 = x60))) rfl) rfl ?_
      refine WQ_nil ?_
      refine nrm ?_
      refine WC_ret ?_
      refine rtB ?_
      refine rtT ?_
      refine rtE ?_
      exact gv1 rfl rfl h
    · rw [if_neg (of_decide_eq_false hb41)] at h
      refine WC_seq ?_
      refine WC_region ?_
      refine WL_val gd0 ((o_eql rfl rfl) _) rfl ?_
      refine WL_val gd0 ((o_assign (v := .bool (decide ((Int.tmod x15 4) = 3))) rfl) _) rfl ?_
      refine WL_nil ?_
      refine nrm ?_
      refine WC_cond (t := (decide ((Int.tmod x15 4) = 3))) rfl (fun hb61 => ?_) (fun hb61 => ?_)
      · rw [if_pos (of_decide_eq_true hb61)] at h
        refine WC_seq ?_
        refine WC_draws [3, 7] (.look 0 (.look 1 (.look 2 (.look 4 (.look 5 (.look 6 (.act 3 (.act 7 (.look 8 (.look 9 .nil)))))))))) Try.mixed (by kernel_rfl) ?_
        refine WQ_val rfl gd0 (o_move (v := .pointer s1) (by exact e0)) rfl ?_
        refine WQ_val rfl gd0 (o_fieldAddr 1 Try.underlying54 rfl Try.sizeOf3 rfl rfl rfl) rfl ?_
        obtain ⟨x62, hc63, h⟩ := h
        refine WQ_look (fun w => w.cell? (p13.add 1) = some (.int .i64 x62)) rfl gd0 (fun w hc => (o_load Try.isAgg3 rfl hc)) hc63 rfl ?_
        refine WQ_val rfl gd0 (o_move (v := .pointer x2) (by exact e1)) rfl ?_
        refine WQ_val rfl gd0 (o_fieldAddr 1 Try.underlying54 rfl Try.sizeOf3 rfl rfl rfl) rfl ?_
        obtain ⟨x64, hc65, h⟩ := h
        refine WQ_look (fun w => w.cell? (p13.add 1) = some (.int .i64 x64)) rfl gd0 (fun w hc => (o_load Try.isAgg3 rfl hc)) hc65 rfl ?_
        refine WQ_call rfl gd0 (o_call Try.call10 (argCons rfl (argCons rfl argNil)) _) rfl (h.mono ?_)
        rintro _ w66 ⟨x67, rfl, hh68, h⟩
        refine ⟨⟨⟨trivial, depT (by kernel_rfl)⟩, fun _ => hh68⟩, ?_⟩
        refine WQ_call rfl gd0 (o_call Try.call31 (argCons rfl (argCons rfl argNil)) _) rfl (h.mono ?_)
        rintro _ w69 ⟨x70, rfl, h⟩
        refine ⟨⟨⟨trivial, depT (by kernel_rfl)⟩, depT (by kernel_rfl)⟩, ?_⟩
        refine WQ_val rfl gd0 (o_eql rfl rfl) rfl ?_
        refine WQ_val rfl gd0 (o_assign (v := .bool (decide (x67 = x70))) rfl) rfl ?_
        refine WQ_nil ?_
        refine nrm ?_
        refine WC_ret ?_
        refine rtB ?_
        refine rtT ?_
        refine rtE ?_
        exact gv1 rfl rfl h
      · rw [if_neg (of_decide_eq_false hb61)] at h
        refine WC_skip ?_
        refine nrmB ?_
        refine nrm ?_
        refine WC_seq ?_
        refine WC_region ?_
        refine WL_val gd0 ((o_move (v := .pointer s1) (by exact e0)) _) rfl ?_
        refine WL_val gd0 ((o_fieldAddr 3 Try.underlying54 rfl Try.sizeOf3 rfl rfl rfl) _) rfl ?_
        obtain ⟨x71, hc72, h⟩ := h
        refine WL_val gd0 (o_load Try.isAgg3 rfl hc72) rfl ?_
        refine WL_val gd0 ((o_move (v := .pointer p11) (by exact e3)) _) rfl ?_
        refine WL_call gd0 (o_call Try.call14 (argCons rfl (argCons rfl (argCons rfl argNil))) _) rfl (h.mono ?_)
        rintro _ w73 ⟨a_a74, a_n75, a_c76, rfl, h⟩
        refine WL_val gd0 ((o_assign (v := .slice a_a74 a_n75 a_c76) rfl) _) rfl ?_
        refine WL_nil ?_
        refine nrm ?_
        refine WC_seq ?_
        refine WC_region ?_
        refine WL_val gd0 ((o_move (v := .pointer x2) (by exact e1)) _) rfl ?_
        refine WL_val gd0 ((o_fieldAddr 3 Try.underlying54 rfl Try.sizeOf3 rfl rfl rfl) _) rfl ?_
        obtain ⟨x77, hc78, h⟩ := h
        refine WL_val gd0 (o_load Try.isAgg3 rfl hc78) rfl ?_
        refine WL_call gd0 (o_call Try.call32 (argCons rfl (argCons rfl argNil)) _) rfl (h.mono ?_)
        rintro _ w79 ⟨b_a80, b_n81, b_c82, rfl, h⟩
        refine WL_val gd0 ((o_assign (v := .slice b_a80 b_n81 b_c82) rfl) _) rfl ?_
        refine WL_nil ?_
        refine nrm ?_
        refine WC_seq ?_
        refine WC_region ?_
        refine WL_val gd0 ((o_move (v := .slice a_a74 a_n75 a_c76) rfl) _) rfl ?_
        refine WL_val gd0 ((o_move (v := .slice b_a80 b_n81 b_c82) rfl) _) rfl ?_
        refine WL_val gd0 ((o_move (v := .pointer x2) (by exact e1)) _) rfl ?_
        obtain ⟨p83, q84, h⟩ := h
        refine WL_val gd0 ((o_nilCheck (by exact (congrArg Value.pointer q84))) _) rfl ?_
        refine WL_val gd0 ((o_fieldAddr 2 Try.underlying50 rfl Try.sizeOf3 rfl rfl rfl) _) rfl ?_
        obtain ⟨x85, hc86, h⟩ := h
        refine WL_val gd0 (o_load Try.isAgg3 rfl hc86) rfl ?_
        refine WL_val gd0 ((o_move (v := .pointer p11) (by exact e3)) _) rfl ?_
        refine WL_call gd0 (o_call Try.call33 (argCons rfl (argCons rfl (argCons rfl (argCons rfl argNil)))) _) rfl (h.mono ?_)
        rintro _ w87 ⟨t88, rfl, h⟩
        refine WL_val gd0 ((o_assign (v := .bool t88) rfl) _) rfl ?_
        refine WL_nil ?_
        refine nrm ?_
        refine WC_ret ?_
        refine rtE ?_
        exact gv1 rfl rfl h

def F18_b1 (a_n2 : Nat) (a_a1 : Option Addr) (b_a4 : Option Addr) (b_n5 : Nat) (i12 : Int) (w13 : World) (k : Value → World → Prop) (nx13 : Int → World → Prop) : Prop :=
  if i12 < (a_n2 : Int) then
  ∃ (p18 : Addr), a_a1 = some p18 ∧ (0 : Int) ≤ i12 ∧ i12 < (a_n2 : Int) ∧ ∃ (x20 : Int), w13.drew.cell? (p18.add (i12.toNat * 4)) = some (.int .i64 x20) ∧ ∃ (p24 : Addr), b_a4 = some p24 ∧ (0 : Int) ≤ i12 ∧ i12 < (b_n5 : Int) ∧ ∃ (x26 : Int), w13.drew.cell? (p24.add (i12.toNat * 4)) = some (.int .i64 x26) ∧ if x20 ≠ x26 then
    k (.bool false) w13.drew
  else
    (0 : Int) ≤ i12 ∧ i12 < (a_n2 : Int) ∧ ∃ (x31 : Int), w13.drew.cell? ((p18.add (i12.toNat * 4)).add 1) = some (.int .i64 x31) ∧ (0 : Int) ≤ i12 ∧ i12 < (b_n5 : Int) ∧ ∃ (x35 : Int), w13.drew.cell? ((p24.add (i12.toNat * 4)).add 1) = some (.int .i64 x35) ∧ if x31 ≠ x35 then
      k (.bool false) w13.drew
    else
      (0 : Int) ≤ i12 ∧ i12 < (a_n2 : Int) ∧ ∃ (x40 : Bool), w13.drew.cell? ((p18.add (i12.toNat * 4)).add 2) = some (.bool x40) ∧ (0 : Int) ≤ i12 ∧ i12 < (b_n5 : Int) ∧ ∃ (x44 : Bool), w13.drew.cell? ((p24.add (i12.toNat * 4)).add 2) = some (.bool x44) ∧ if (!(x40 == x44)) = true then
        k (.bool false) w13.drew
      else
        (0 : Int) ≤ i12 ∧ i12 < (a_n2 : Int) ∧ ∃ (x_a49 : Option Addr) (x_n50 x_c51 : Nat), w13.drew.cell? ((p18.add (i12.toNat * 4)).add 3) = some (.slice x_a49 x_n50 x_c51) ∧ (0 : Int) ≤ i12 ∧ i12 < (b_n5 : Int) ∧ ∃ (x_a55 : Option Addr) (x_n56 x_c57 : Nat), w13.drew.cell? ((p24.add (i12.toNat * 4)).add 3) = some (.slice x_a55 x_n56 x_c57) ∧ Does Try.prog 34 #[.slice x_a49 x_n50 x_c51, .slice x_a55 x_n56 x_c57] w13.drew (fun v w59 => ∃ (x60 : Bool), v = .bool x60 ∧ if (!x60) = true then
          k (.bool false) w59
        else
          nx13 (IntKind.i64.wrap (i12 + 1)) w59)
else
  k (.bool true) w13
/-- spacecraft spacecraftref34.Same -/
def F18 (a_a1 : Option Addr) (a_n2 : Nat) (a_c3 : Nat) (b_a4 : Option Addr) (b_n5 : Nat) (b_c6 : Nat) (w7 : World) (k : Value → World → Prop) : Prop :=
  if (a_n2 : Int) ≠ (b_n5 : Int) then
  k (.bool false) w7
else
  LoopP (fun (s : Int) w' nx' => F18_b1 a_n2 a_a1 b_a4 b_n5 s w' k (fun x0 w => nx' x0 w)) 0 w7
set_option maxRecDepth 100000 in
set_option maxHeartbeats 2000000 in
theorem w18 (a_a1 : Option Addr) (a_n2 : Nat) (a_c3 : Nat) (b_a4 : Option Addr) (b_n5 : Nat) (b_c6 : Nat) (w7 : World) (k : Value → World → Prop) (h : F18 a_a1 a_n2 a_c3 b_a4 b_n5 b_c6 w7 k) : Does Try.prog 18 #[.slice a_a1 a_n2 a_c3, .slice b_a4 b_n5 b_c6] w7 k := by
  refine enter 68 Try.func18 rfl rfl rfl ?_
  intro ρ hρ
  have e0 := hρ 0 _ rfl
  have e1 := hρ 1 _ rfl
  unfold F18 at h
  refine WC_seq ?_
  refine WC_region ?_
  refine WL_val gd0 ((o_assign (v := .bool false) rfl) _) rfl ?_
  refine WL_nil ?_
  refine nrm ?_
  refine WC_seq ?_
  refine WC_seq ?_
  refine WC_region ?_
  refine WL_val gd0 ((o_move (v := .slice a_a1 a_n2 a_c3) (by exact e0)) _) rfl ?_
  refine WL_val gd0 ((o_len Try.underlying28 rfl) _) rfl ?_
  refine WL_val gd0 ((o_move (v := .slice b_a4 b_n5 b_c6) (by exact e1)) _) rfl ?_
  refine WL_val gd0 ((o_len Try.underlying28 rfl) _) rfl ?_
  refine WL_val gd0 ((o_neq rfl rfl) _) rfl ?_
  refine WL_nil ?_
  refine nrm ?_
  refine WC_cond (t := (decide ((a_n2 : Int) ≠ (b_n5 : Int)))) rfl (fun hb8 => ?_) (fun hb8 => ?_)
  · rw [if_pos (of_decide_eq_true hb8)] at h
    refine WC_seq ?_
    refine WC_region ?_
    refine WL_val gd0 ((o_assign (v := .bool false) rfl) _) rfl ?_
    refine WL_nil ?_
    refine nrm ?_
    refine WC_ret ?_
    refine rtT ?_
    refine rtE ?_
    exact gv1 rfl rfl h
  · rw [if_neg (of_decide_eq_false hb8)] at h
    refine WC_skip ?_
    refine nrm ?_
    refine WC_seq ?_
    refine WC_seq ?_
    refine WC_region ?_
    refine WL_val gd0 ((o_assign (v := .int .i64 0) rfl) _) rfl ?_
    refine WL_nil ?_
    refine nrm ?_
    refine WC_block ?_
    obtain ⟨J13, ⟨n13, h0⟩, hr13⟩ := h
    refine WC_loop (fun n ρ w' => ∃ (i12 : Int), ρ 5 = .int .i64 i12 ∧ ρ 0 = .slice a_a1 a_n2 a_c3 ∧ ρ 1 = .slice b_a4 b_n5 b_c6 ∧ J13 n i12 w') ⟨n13, _, rfl, e0, e1, h0⟩ ?_
    rintro n13 ρ w13 ⟨i12, e5_11, e0_9, e1_10, h⟩
    have h : F18_b1 a_n2 a_a1 b_a4 b_n5 i12 w13 k (fun x0 w => ∃ m, m < n13 ∧ J13 m x0 w) := hr13 n13 i12 w13 h
    unfold F18_b1 at h
    refine WC_seq ?_
    refine WC_seq ?_
    refine WC_region ?_
    refine WL_val gd0 ((o_move (v := .int .i64 i12) (by exact e5_11)) _) rfl ?_
    refine WL_val gd0 ((o_move (v := .slice a_a1 a_n2 a_c3) (by exact e0_9)) _) rfl ?_
    refine WL_val gd0 ((o_len Try.underlying28 rfl) _) rfl ?_
    refine WL_val gd0 ((o_lss rfl rfl) _) rfl ?_
    refine WL_nil ?_
    refine nrm ?_
    refine WC_cond (t := (decide (i12 < (a_n2 : Int)))) rfl (fun hb15 => ?_) (fun hb15 => ?_)
    · rw [if_pos (of_decide_eq_true hb15)] at h
      refine WC_skip ?_
      refine nrm ?_
      refine WC_seq ?_
      refine WC_block ?_
      refine WC_seq ?_
      refine WC_draws [48] (.look 0 (.look 1 (.look 2 (.look 3 (.look 4 (.look 5 (.look 6 (.look 7 (.look 8 (.look 9 (.look 10 (.look 11 (.look 12 (.look 13 (.look 14 (.look 15 (.look 16 (.look 17 (.look 18 (.look 19 (.look 20 (.look 21 (.look 22 (.look 23 (.look 24 (.look 25 (.look 26 (.look 27 (.look 28 (.look 29 (.look 30 (.look 31 (.look 32 (.look 33 (.look 34 (.look 35 (.look 36 (.look 37 (.look 38 (.look 39 (.look 40 (.look 41 (.look 42 (.look 43 (.look 44 (.look 45 (.look 46 (.look 47 (.act 48 (.look 49 (.look 50 .nil))))))))))))))))))))))))))))))))))))))))))))))))))) Try.mixed (by kernel_rfl) ?_
      refine WQ_val rfl gd0 (o_move (v := .slice a_a1 a_n2 a_c3) (by exact e0_9)) rfl ?_
      refine WQ_val rfl gd0 (o_move (v := .int .i64 i12) (by exact e5_11)) rfl ?_
      obtain ⟨p18, q19, h⟩ := h
      obtain ⟨l16, u17, h⟩ := h
      refine WQ_val rfl gd0 (o_indexAddr Try.underlying28 Try.sizeOf31 (by exact (congrArg (fun z => Value.slice z a_n2 a_c3) q19)) rfl l16 u17) rfl ?_
      refine WQ_val rfl gd0 (o_fieldAddr0 Try.underlying31 rfl Try.sizeOf3 rfl rfl rfl) rfl ?_
      obtain ⟨x20, hc21, h⟩ := h
      refine WQ_look (fun w => w.cell? (p18.add (i12.toNat * 4)) = some (.int .i64 x20)) rfl gd0 (fun w hc => (o_load Try.isAgg3 rfl hc)) hc21 rfl ?_
      refine WQ_val rfl gd0 (o_move (v := .slice b_a4 b_n5 b_c6) (by exact e1_10)) rfl ?_
      refine WQ_val rfl gd0 (o_move (v := .int .i64 i12) (by exact e5_11)) rfl ?_
      obtain ⟨p24, q25, h⟩ := h
      obtain ⟨l22, u23, h⟩ := h
      refine WQ_val rfl gd0 (o_indexAddr Try.underlying28 Try.sizeOf31 (by exact (congrArg (fun z => Value.slice z b_n5 b_c6) q25)) rfl l22 u23) rfl ?_
      refine WQ_val rfl gd0 (o_fieldAddr0 Try.underlying31 rfl Try.sizeOf3 rfl rfl rfl) rfl ?_
      obtain ⟨x26, hc27, h⟩ := h
      refine WQ_look (fun w => w.cell? (p24.add (i12.toNat * 4)) = some (.int .i64 x26)) rfl gd0 (fun w hc => (o_load Try.isAgg3 rfl hc)) hc27 rfl ?_
      refine WQ_val rfl gd0 (o_neq rfl rfl) rfl ?_
      refine WQ_val rfl gd0 (o_move (v := .bool (decide (x20 ≠ x26))) rfl) rfl ?_
      refine bsplit (decide (x20 ≠ x26)) (fun hb28 => ?_) (fun hb28 => ?_)
      · rw [if_pos (of_decide_eq_true hb28)] at h
        refine WQ_skip rfl (gdN (b := (decide (x20 ≠ x26))) 28 rfl rfl hb28) rfl ?_
        refine WQ_skip rfl (gdN (b := (decide (x20 ≠ x26))) 28 rfl rfl hb28) rfl ?_
        refine WQ_skip rfl (gdN (b := (decide (x20 ≠ x26))) 28 rfl rfl hb28) rfl ?_
        refine WQ_skip rfl (gdN (b := (decide (x20 ≠ x26))) 28 rfl rfl hb28) rfl ?_
        refine WQ_skip rfl (gdN (b := (decide (x20 ≠ x26))) 28 rfl rfl hb28) rfl ?_
        refine WQ_skip rfl (gdN (b := (decide (x20 ≠ x26))) 28 rfl rfl hb28) rfl ?_
        refine WQ_skip rfl (gdN (b := (decide (x20 ≠ x26))) 28 rfl rfl hb28) rfl ?_
        refine WQ_skip rfl (gdN (b := (decide (x20 ≠ x26))) 28 rfl rfl hb28) rfl ?_
        refine WQ_skip rfl (gdN (b := (decide (x20 ≠ x26))) 28 rfl rfl hb28) rfl ?_
        refine WQ_skip rfl (gdN (b := (decide (x20 ≠ x26))) 28 rfl rfl hb28) rfl ?_
        refine WQ_skip rfl (gdN (b := (decide (x20 ≠ x26))) 28 rfl rfl hb28) rfl ?_
        refine WQ_val rfl gd0 (o_pickT (v := .bool true) rfl hb28 rfl) rfl ?_
        refine WQ_val rfl gd0 (o_move (v := .bool true) rfl) rfl ?_
        refine WQ_skip rfl (gdN (b := true) 41 rfl rfl rfl) rfl ?_
        refine WQ_skip rfl (gdN (b := true) 41 rfl rfl rfl) rfl ?_
        refine WQ_skip rfl (gdN (b := true) 41 rfl rfl rfl) rfl ?_
        refine WQ_skip rfl (gdN (b := true) 41 rfl rfl rfl) rfl ?_
        refine WQ_skip rfl (gdN (b := true) 41 rfl rfl rfl) rfl ?_
        refine WQ_skip rfl (gdN (b := true) 41 rfl rfl rfl) rfl ?_
        refine WQ_skip rfl (gdN (b := true) 41 rfl rfl rfl) rfl ?_
        refine WQ_skip rfl (gdN (b := true) 41 rfl rfl rfl) rfl ?_
        refine WQ_skip rfl (gdN (b := true) 41 rfl rfl rfl) rfl ?_
        refine WQ_skip rfl (gdN (b := true) 41 rfl rfl rfl) rfl ?_
        refine WQ_skip rfl (gdN (b := true) 41 rfl rfl rfl) rfl ?_
        refine WQ_val rfl gd0 (o_pickT (v := .bool true) rfl rfl rfl) rfl ?_
        refine WQ_val rfl gd0 (o_move (v := .bool true) rfl) rfl ?_
        refine WQ_skip rfl (gdN (b := true) 54 rfl rfl rfl) rfl ?_
        refine WQ_skip rfl (gdN (b := true) 54 rfl rfl rfl) rfl ?_
        refine WQ_skip rfl (gdN (b := true) 54 rfl rfl rfl) rfl ?_
        refine WQ_skip rfl (gdN (b := true) 54 rfl rfl rfl) rfl ?_
        refine WQ_skip rfl (gdN (b := true) 54 rfl rfl rfl) rfl ?_
        refine WQ_skip rfl (gdN (b := true) 54 rfl rfl rfl) rfl ?_
        refine WQ_skip rfl (gdN (b := true) 54 rfl rfl rfl) rfl ?_
        refine WQ_skip rfl (gdN (b := true) 54 rfl rfl rfl) rfl ?_
        refine WQ_skip rfl (gdN (b := true) 54 rfl rfl rfl) rfl ?_
        refine WQ_skip rfl (gdN (b := true) 54 rfl rfl rfl) rfl ?_
        refine WQ_passAct rfl (gdN (b := true) 54 rfl rfl rfl) rfl (by exact ⟨⟨trivial, depT (by kernel_rfl)⟩, depT (by kernel_rfl)⟩) ?_
        refine WQ_skip rfl (gdN (b := true) 54 rfl rfl rfl) rfl ?_
        refine WQ_val rfl gd0 (o_pickT (v := .bool true) rfl rfl rfl) rfl ?_
        refine WQ_nil ?_
        refine nrm ?_
        refine WC_cond (t := true) rfl (fun _ => ?_) (fun hx => by rw [(rfl : true = true)] at hx; cases hx)
        refine WC_seq ?_
        refine WC_region ?_
        refine WL_val gd0 ((o_assign (v := .bool false) rfl) _) rfl ?_
        refine WL_nil ?_
        refine nrm ?_
        refine WC_ret ?_
        refine rtB ?_
        refine rtT ?_
        refine rtT ?_
        refine rtB ?_
        refine rtT ?_
        refine rtE ?_
        exact gv1 rfl rfl h
      · rw [if_neg (of_decide_eq_false hb28)] at h
        refine WQ_val rfl (gdY (b := (decide (x20 ≠ x26))) 28 rfl rfl hb28) (o_move (v := .slice a_a1 a_n2 a_c3) (by exact e0_9)) rfl ?_
        refine WQ_val rfl (gdY (b := (decide (x20 ≠ x26))) 28 rfl rfl hb28) (o_move (v := .int .i64 i12) (by exact e5_11)) rfl ?_
        obtain ⟨l29, u30, h⟩ := h
        refine WQ_val rfl (gdY (b := (decide (x20 ≠ x26))) 28 rfl rfl hb28) (o_indexAddr Try.underlying28 Try.sizeOf31 (by exact (congrArg (fun z => Value.slice z a_n2 a_c3) q19)) rfl l29 u30) rfl ?_
        refine WQ_val rfl (gdY (b := (decide (x20 ≠ x26))) 28 rfl rfl hb28) (o_fieldAddr 1 Try.underlying31 rfl Try.sizeOf3 rfl rfl rfl) rfl ?_
        obtain ⟨x31, hc32, h⟩ := h
        refine WQ_look (fun w => w.cell? ((p18.add (i12.toNat * 4)).add 1) = some (.int .i64 x31)) rfl (gdY (b := (decide (x20 ≠ x26))) 28 rfl rfl hb28) (fun w hc => (o_load Try.isAgg3 rfl hc)) hc32 rfl ?_
        refine WQ_val rfl (gdY (b := (decide (x20 ≠ x26))) 28 rfl rfl hb28) (o_move (v := .slice b_a4 b_n5 b_c6) (by exact e1_10)) rfl ?_
        refine WQ_val rfl (gdY (b := (decide (x20 ≠ x26))) 28 rfl rfl hb28) (o_move (v := .int .i64 i12) (by exact e5_11)) rfl ?_
        obtain ⟨l33, u34, h⟩ := h
        refine WQ_val rfl (gdY (b := (decide (x20 ≠ x26))) 28 rfl rfl hb28) (o_indexAddr Try.underlying28 Try.sizeOf31 (by exact (congrArg (fun z => Value.slice z b_n5 b_c6) q25)) rfl l33 u34) rfl ?_
        refine WQ_val rfl (gdY (b := (decide (x20 ≠ x26))) 28 rfl rfl hb28) (o_fieldAddr 1 Try.underlying31 rfl Try.sizeOf3 rfl rfl rfl) rfl ?_
        obtain ⟨x35, hc36, h⟩ := h
        refine WQ_look (fun w => w.cell? ((p24.add (i12.toNat * 4)).add 1) = some (.int .i64 x35)) rfl (gdY (b := (decide (x20 ≠ x26))) 28 rfl rfl hb28) (fun w hc => (o_load Try.isAgg3 rfl hc)) hc36 rfl ?_
        refine WQ_val rfl (gdY (b := (decide (x20 ≠ x26))) 28 rfl rfl hb28) (o_neq rfl rfl) rfl ?_
        refine WQ_val rfl gd0 (o_pickF (v := .bool (decide (x31 ≠ x35))) rfl hb28 rfl) rfl ?_
        refine WQ_val rfl gd0 (o_move (v := .bool (decide (x31 ≠ x35))) rfl) rfl ?_
        refine bsplit (decide (x31 ≠ x35)) (fun hb37 => ?_) (fun hb37 => ?_)
        · rw [if_pos (of_decide_eq_true hb37)] at h
          refine WQ_skip rfl (gdN (b := (decide (x31 ≠ x35))) 41 rfl rfl hb37) rfl ?_
          refine WQ_skip rfl (gdN (b := (decide (x31 ≠ x35))) 41 rfl rfl hb37) rfl ?_
          refine WQ_skip rfl (gdN (b := (decide (x31 ≠ x35))) 41 rfl rfl hb37) rfl ?_
          refine WQ_skip rfl (gdN (b := (decide (x31 ≠ x35))) 41 rfl rfl hb37) rfl ?_
          refine WQ_skip rfl (gdN (b := (decide (x31 ≠ x35))) 41 rfl rfl hb37) rfl ?_
          refine WQ_skip rfl (gdN (b := (decide (x31 ≠ x35))) 41 rfl rfl hb37) rfl ?_
          refine WQ_skip rfl (gdN (b := (decide (x31 ≠ x35))) 41 rfl rfl hb37) rfl ?_
          refine WQ_skip rfl (gdN (b := (decide (x31 ≠ x35))) 41 rfl rfl hb37) rfl ?_
          refine WQ_skip rfl (gdN (b := (decide (x31 ≠ x35))) 41 rfl rfl hb37) rfl ?_
          refine WQ_skip rfl (gdN (b := (decide (x31 ≠ x35))) 41 rfl rfl hb37) rfl ?_
          refine WQ_skip rfl (gdN (b := (decide (x31 ≠ x35))) 41 rfl rfl hb37) rfl ?_
          refine WQ_val rfl gd0 (o_pickT (v := .bool true) rfl hb37 rfl) rfl ?_
          refine WQ_val rfl gd0 (o_move (v := .bool true) rfl) rfl ?_
          refine WQ_skip rfl (gdN (b := true) 54 rfl rfl rfl) rfl ?_
          refine WQ_skip rfl (gdN (b := true) 54 rfl rfl rfl) rfl ?_
          refine WQ_skip rfl (gdN (b := true) 54 rfl rfl rfl) rfl ?_
          refine WQ_skip rfl (gdN (b := true) 54 rfl rfl rfl) rfl ?_
          refine WQ_skip rfl (gdN (b := true) 54 rfl rfl rfl) rfl ?_
          refine WQ_skip rfl (gdN (b := true) 54 rfl rfl rfl) rfl ?_
          refine WQ_skip rfl (gdN (b := true) 54 rfl rfl rfl) rfl ?_
          refine WQ_skip rfl (gdN (b := true) 54 rfl rfl rfl) rfl ?_
          refine WQ_skip rfl (gdN (b := true) 54 rfl rfl rfl) rfl ?_
          refine WQ_skip rfl (gdN (b := true) 54 rfl rfl rfl) rfl ?_
          refine WQ_passAct rfl (gdN (b := true) 54 rfl rfl rfl) rfl (by exact ⟨⟨⟨⟨trivial, depT (by kernel_rfl)⟩, depT (by kernel_rfl)⟩, depT (by kernel_rfl)⟩, depT (by kernel_rfl)⟩) ?_
          refine WQ_skip rfl (gdN (b := true) 54 rfl rfl rfl) rfl ?_
          refine WQ_val rfl gd0 (o_pickT (v := .bool true) rfl rfl rfl) rfl ?_
          refine WQ_nil ?_
          refine nrm ?_
          refine WC_cond (t := true) rfl (fun _ => ?_) (fun hx => by rw [(rfl : true = true)] at hx; cases hx)
          refine WC_seq ?_
          refine WC_region ?_
          refine WL_val gd0 ((o_assign (v := .bool false) rfl) _) rfl ?_
          refine WL_nil ?_
          refine nrm ?_
          refine WC_ret ?_
          refine rtB ?_
          refine rtT ?_
          refine rtT ?_
          refine rtB ?_
          refine rtT ?_
          refine rtE ?_
          exact gv1 rfl rfl h
        · rw [if_neg (of_decide_eq_false hb37)] at h
          refine WQ_val rfl (gdY (b := (decide (x31 ≠ x35))) 41 rfl rfl hb37) (o_move (v := .slice a_a1 a_n2 a_c3) (by exact e0_9)) rfl ?_
          refine WQ_val rfl (gdY (b := (decide (x31 ≠ x35))) 41 rfl rfl hb37) (o_move (v := .int .i64 i12) (by exact e5_11)) rfl ?_
          obtain ⟨l38, u39, h⟩ := h
          refine WQ_val rfl (gdY (b := (decide (x31 ≠ x35))) 41 rfl rfl hb37) (o_indexAddr Try.underlying28 Try.sizeOf31 (by exact (congrArg (fun z => Value.slice z a_n2 a_c3) q19)) rfl l38 u39) rfl ?_
          refine WQ_val rfl (gdY (b := (decide (x31 ≠ x35))) 41 rfl rfl hb37) (o_fieldAddr 2 Try.underlying31 rfl Try.sizeOf4 rfl rfl rfl) rfl ?_
          obtain ⟨x40, hc41, h⟩ := h
          refine WQ_look (fun w => w.cell? ((p18.add (i12.toNat * 4)).add 2) = some (.bool x40)) rfl (gdY (b := (decide (x31 ≠ x35))) 41 rfl rfl hb37) (fun w hc => (o_load Try.isAgg4 rfl hc)) hc41 rfl ?_
          refine WQ_val rfl (gdY (b := (decide (x31 ≠ x35))) 41 rfl rfl hb37) (o_move (v := .slice b_a4 b_n5 b_c6) (by exact e1_10)) rfl ?_
          refine WQ_val rfl (gdY (b := (decide (x31 ≠ x35))) 41 rfl rfl hb37) (o_move (v := .int .i64 i12) (by exact e5_11)) rfl ?_
          obtain ⟨l42, u43, h⟩ := h
          refine WQ_val rfl (gdY (b := (decide (x31 ≠ x35))) 41 rfl rfl hb37) (o_indexAddr Try.underlying28 Try.sizeOf31 (by exact (congrArg (fun z => Value.slice z b_n5 b_c6) q25)) rfl l42 u43) rfl ?_
          refine WQ_val rfl (gdY (b := (decide (x31 ≠ x35))) 41 rfl rfl hb37) (o_fieldAddr 2 Try.underlying31 rfl Try.sizeOf4 rfl rfl rfl) rfl ?_
          obtain ⟨x44, hc45, h⟩ := h
          refine WQ_look (fun w => w.cell? ((p24.add (i12.toNat * 4)).add 2) = some (.bool x44)) rfl (gdY (b := (decide (x31 ≠ x35))) 41 rfl rfl hb37) (fun w hc => (o_load Try.isAgg4 rfl hc)) hc45 rfl ?_
          refine WQ_val rfl (gdY (b := (decide (x31 ≠ x35))) 41 rfl rfl hb37) (o_neqBool Try.underlying4 rfl rfl) rfl ?_
          refine WQ_val rfl gd0 (o_pickF (v := .bool (!(x40 == x44))) rfl hb37 rfl) rfl ?_
          refine WQ_val rfl gd0 (o_move (v := .bool (!(x40 == x44))) rfl) rfl ?_
          refine bsplit (!(x40 == x44)) (fun hb46 => ?_) (fun hb46 => ?_)
          · rw [if_pos hb46] at h
            refine WQ_skip rfl (gdN (b := (!(x40 == x44))) 54 rfl rfl hb46) rfl ?_
            refine WQ_skip rfl (gdN (b := (!(x40 == x44))) 54 rfl rfl hb46) rfl ?_
            refine WQ_skip rfl (gdN (b := (!(x40 == x44))) 54 rfl rfl hb46) rfl ?_
            refine WQ_skip rfl (gdN (b := (!(x40 == x44))) 54 rfl rfl hb46) rfl ?_
            refine WQ_skip rfl (gdN (b := (!(x40 == x44))) 54 rfl rfl hb46) rfl ?_
            refine WQ_skip rfl (gdN (b := (!(x40 == x44))) 54 rfl rfl hb46) rfl ?_
            refine WQ_skip rfl (gdN (b := (!(x40 == x44))) 54 rfl rfl hb46) rfl ?_
            refine WQ_skip rfl (gdN (b := (!(x40 == x44))) 54 rfl rfl hb46) rfl ?_
            refine WQ_skip rfl (gdN (b := (!(x40 == x44))) 54 rfl rfl hb46) rfl ?_
            refine WQ_skip rfl (gdN (b := (!(x40 == x44))) 54 rfl rfl hb46) rfl ?_
            refine WQ_passAct rfl (gdN (b := (!(x40 == x44))) 54 rfl rfl hb46) rfl (by exact ⟨⟨⟨⟨⟨⟨trivial, depT (by kernel_rfl)⟩, depT (by kernel_rfl)⟩, depT (by kernel_rfl)⟩, depT (by kernel_rfl)⟩, depT (by kernel_rfl)⟩, depT (by kernel_rfl)⟩) ?_
            refine WQ_skip rfl (gdN (b := (!(x40 == x44))) 54 rfl rfl hb46) rfl ?_
            refine WQ_val rfl gd0 (o_pickT (v := .bool true) rfl hb46 rfl) rfl ?_
            refine WQ_nil ?_
            refine nrm ?_
            refine WC_cond (t := true) rfl (fun _ => ?_) (fun hx => by rw [(rfl : true = true)] at hx; cases hx)
            refine WC_seq ?_
            refine WC_region ?_
            refine WL_val gd0 ((o_assign (v := .bool false) rfl) _) rfl ?_
            refine WL_nil ?_
            refine nrm ?_
            refine WC_ret ?_
            refine rtB ?_
            refine rtT ?_
            refine rtT ?_
            refine rtB ?_
            refine rtT ?_
            refine rtE ?_
            exact gv1 rfl rfl h
          · rw [if_neg (neT hb46)] at h
            refine WQ_val rfl (gdY (b := (!(x40 == x44))) 54 rfl rfl hb46) (o_move (v := .slice a_a1 a_n2 a_c3) (by exact e0_9)) rfl ?_
            refine WQ_val rfl (gdY (b := (!(x40 == x44))) 54 rfl rfl hb46) (o_move (v := .int .i64 i12) (by exact e5_11)) rfl ?_
            obtain ⟨l47, u48, h⟩ := h
            refine WQ_val rfl (gdY (b := (!(x40 == x44))) 54 rfl rfl hb46) (o_indexAddr Try.underlying28 Try.sizeOf31 (by exact (congrArg (fun z => Value.slice z a_n2 a_c3) q19)) rfl l47 u48) rfl ?_
            refine WQ_val rfl (gdY (b := (!(x40 == x44))) 54 rfl rfl hb46) (o_fieldAddr 3 Try.underlying31 rfl Try.sizeOf26 rfl rfl rfl) rfl ?_
            obtain ⟨x_a49, x_n50, x_c51, hc52, h⟩ := h
            refine WQ_look (fun w => w.cell? ((p18.add (i12.toNat * 4)).add 3) = some (.slice x_a49 x_n50 x_c51)) rfl (gdY (b := (!(x40 == x44))) 54 rfl rfl hb46) (fun w hc => (o_load Try.isAgg26 rfl hc)) hc52 rfl ?_
            refine WQ_val rfl (gdY (b := (!(x40 == x44))) 54 rfl rfl hb46) (o_move (v := .slice b_a4 b_n5 b_c6) (by exact e1_10)) rfl ?_
            refine WQ_val rfl (gdY (b := (!(x40 == x44))) 54 rfl rfl hb46) (o_move (v := .int .i64 i12) (by exact e5_11)) rfl ?_
            obtain ⟨l53, u54, h⟩ := h
            refine WQ_val rfl (gdY (b := (!(x40 == x44))) 54 rfl rfl hb46) (o_indexAddr Try.underlying28 Try.sizeOf31 (by exact (congrArg (fun z => Value.slice z b_n5 b_c6) q25)) rfl l53 u54) rfl ?_
            refine WQ_val rfl (gdY (b := (!(x40 == x44))) 54 rfl rfl hb46) (o_fieldAddr 3 Try.underlying31 rfl Try.sizeOf26 rfl rfl rfl) rfl ?_
            obtain ⟨x_a55, x_n56, x_c57, hc58, h⟩ := h
            refine WQ_look (fun w => w.cell? ((p24.add (i12.toNat * 4)).add 3) = some (.slice x_a55 x_n56 x_c57)) rfl (gdY (b := (!(x40 == x44))) 54 rfl rfl hb46) (fun w hc => (o_load Try.isAgg26 rfl hc)) hc58 rfl ?_
            refine WQ_call rfl (gdY (b := (!(x40 == x44))) 54 rfl rfl hb46) (o_call Try.call34 (argCons rfl (argCons rfl argNil)) _) rfl (h.mono ?_)
            rintro _ w59 ⟨x60, rfl, h⟩
            refine ⟨⟨⟨⟨⟨⟨⟨⟨⟨trivial, depT (by kernel_rfl)⟩, depT (by kernel_rfl)⟩, depT (by kernel_rfl)⟩, depT (by kernel_rfl)⟩, depT (by kernel_rfl)⟩, depT (by kernel_rfl)⟩, depT (by kernel_rfl)⟩, depT (by kernel_rfl)⟩, ?_⟩
            refine WQ_val rfl (gdY (b := (!(x40 == x44))) 54 rfl rfl hb46) (o_not rfl) rfl ?_
            refine WQ_val rfl gd0 (o_pickF (v := .bool (!x60)) rfl hb46 rfl) rfl ?_
            refine WQ_nil ?_
            refine nrm ?_
            refine WC_cond (t := (!x60)) rfl (fun hb61 => ?_) (fun hb61 => ?_)
            · rw [if_pos hb61] at h
              refine WC_seq ?_
              refine WC_region ?_
              refine WL_val gd0 ((o_assign (v := .bool false) rfl) _) rfl ?_
              refine WL_nil ?_
              refine nrm ?_
              refine WC_ret ?_
              refine rtB ?_
              refine rtT ?_
              refine rtT ?_
              refine rtB ?_
              refine rtT ?_
              refine rtE ?_
              exact gv1 rfl rfl h
            · rw [if_neg (neT hb61)] at h
              refine WC_skip ?_
              refine nrmB ?_
              refine nrm ?_
              refine WC_region ?_
              refine WL_val gd0 ((o_move (v := .int .i64 i12) (by exact e5_11)) _) rfl ?_
              refine WL_val gd0 ((o_add rfl rfl) _) rfl ?_
              refine WL_val gd0 ((o_assign (v := .int .i64 (IntKind.i64.wrap (i12 + 1))) rfl) _) rfl ?_
              refine WL_nil ?_
              refine nrm ?_
              obtain ⟨m14, hm14, h⟩ := h
              exact ⟨m14, hm14, _, rfl, e0_9, e1_10, h⟩
    · rw [if_neg (of_decide_eq_false hb15)] at h
      refine WC_exit ?_
      refine exT ?_
      refine exT ?_
      refine exB ?_
      refine nrm ?_
      refine WC_seq ?_
      refine WC_region ?_
      refine WL_val gd0 ((o_assign (v := .bool true) rfl) _) rfl ?_
      refine WL_nil ?_
      refine nrm ?_
      refine WC_ret ?_
      refine rtE ?_
      exact gv1 rfl rfl h

def F19_j2 (p26 : Addr) (p6 : Addr) (t13 : Int) (t37 : Bool) (w38 : World) (k : Value → World → Prop) (nx14 : Int → World → Prop) : Prop :=
  if t37 = true then
  k (.tuple #[.pointer none, .int .i64 1]) w38
else
  ∃ (x40 : Int), w38.drew.cell? p26 = some (.int .i64 x40) ∧ ∃ (x42 x43 : Int) (x44 : Bool) (x45 : Int), Cells w38.drew p26 0 [.int .i64 x42, .int .i64 x43, .bool x44, .int .i64 x45] ∧ Does Try.prog 36 #[.pointer (some (p6.add 1)), .int .i64 x40, .agg #[.int .i64 x42, .int .i64 x43, .bool x44, .int .i64 x45]] w38.drew (fun v w47 => v = .tuple #[] ∧ nx14 (IntKind.i64.wrap (t13 + 1)) w47)
def F19_b1 (l_n2 : Nat) (l_a1 : Option Addr) (p6 : Addr) (t13 : Int) (w14 : World) (k : Value → World → Prop) (nx14 : Int → World → Prop) : Prop :=
  if t13 < (l_n2 : Int) then
  ∃ (p19 : Addr), l_a1 = some p19 ∧ (0 : Int) ≤ t13 ∧ t13 < (l_n2 : Int) ∧ ∃ (x21 x22 : Int) (x23 : Bool) (x24 : Int), Cells w14 (p19.add (t13.toNat * 4)) 0 [.int .i64 x21, .int .i64 x22, .bool x23, .int .i64 x24] ∧ New w14 82 [.int .i64 0, .int .i64 0, .bool false, .int .i64 0] (fun p26 w27 => PutAll w27 p26 [.int .i64 x21, .int .i64 x22, .bool x23, .int .i64 x24] (fun w28 => ∃ (x48 : Int), w28.drew.cell? p26 = some (.int .i64 x48) ∧ if x48 < 0 then
    F19_j2 p26 p6 t13 true w28.drew k nx14
  else
    ∃ (x51 : Int), w28.drew.cell? p26 = some (.int .i64 x51) ∧ if 65535 < x51 then
      F19_j2 p26 p6 t13 true w28.drew k nx14
    else
      if 0 < t13 then
        (0 : Int) ≤ IntKind.i64.wrap (t13 - 1) ∧ IntKind.i64.wrap (t13 - 1) < (l_n2 : Int) ∧ ∃ (x57 : Int), w28.drew.cell? (p19.add (((IntKind.i64.wrap (t13 - 1)).toNat) * 4)) = some (.int .i64 x57) ∧ ∃ (x59 : Int), w28.drew.cell? p26 = some (.int .i64 x59) ∧ if x59 ≤ x57 then
          F19_j2 p26 p6 t13 true w28.drew k nx14
        else
          ∃ (x62 : Int), w28.drew.cell? (p26.add 1) = some (.int .i64 x62) ∧ if x62 < 1 then
            F19_j2 p26 p6 t13 true w28.drew k nx14
          else
            ∃ (x65 : Int), w28.drew.cell? (p26.add 1) = some (.int .i64 x65) ∧ if 32 < x65 then
              F19_j2 p26 p6 t13 true w28.drew k nx14
            else
              ∃ (x68 x69 : Int) (x70 : Bool) (x71 : Int), Cells w28.drew p26 0 [.int .i64 x68, .int .i64 x69, .bool x70, .int .i64 x71] ∧ ∃ (x73 : Int), w28.drew.cell? (p26.add 3) = some (.int .i64 x73) ∧ Does Try.prog 35 #[.agg #[.int .i64 x68, .int .i64 x69, .bool x70, .int .i64 x71], .int .i64 x73] w28.drew (fun v w75 => ∃ (x76 : Bool), v = .bool x76 ∧ F19_j2 p26 p6 t13 (!x76) w75 k nx14)
      else
        ∃ (x77 : Int), w28.drew.cell? (p26.add 1) = some (.int .i64 x77) ∧ if x77 < 1 then
          F19_j2 p26 p6 t13 true w28.drew k nx14
        else
          ∃ (x80 : Int), w28.drew.cell? (p26.add 1) = some (.int .i64 x80) ∧ if 32 < x80 then
            F19_j2 p26 p6 t13 true w28.drew k nx14
          else
            ∃ (x83 x84 : Int) (x85 : Bool) (x86 : Int), Cells w28.drew p26 0 [.int .i64 x83, .int .i64 x84, .bool x85, .int .i64 x86] ∧ ∃ (x88 : Int), w28.drew.cell? (p26.add 3) = some (.int .i64 x88) ∧ Does Try.prog 35 #[.agg #[.int .i64 x83, .int .i64 x84, .bool x85, .int .i64 x86], .int .i64 x88] w28.drew (fun v w90 => ∃ (x91 : Bool), v = .bool x91 ∧ F19_j2 p26 p6 t13 (!x91) w90 k nx14)))
else
  k (.tuple #[.pointer (some p6), .int .i64 0]) w14
/-- spacecraft params.New -/
def F19 (l_a1 : Option Addr) (l_n2 : Nat) (l_c3 : Nat) (w4 : World) (k : Value → World → Prop) : Prop :=
  if 256 < (l_n2 : Int) then
  k (.tuple #[.pointer none, .int .i64 6]) w4
else
  New w4 80 [.bool true, .slice none 0 0, .slice none 0 0] (fun p6 w7 => LoopP (fun (s : Int) w' nx' => F19_b1 l_n2 l_a1 p6 s w' k (fun x0 w => nx' x0 w)) 0 w7)
set_option maxRecDepth 100000 in
set_option maxHeartbeats 2000000 in
theorem w19 (l_a1 : Option Addr) (l_n2 : Nat) (l_c3 : Nat) (w4 : World) (k : Value → World → Prop) (h : F19 l_a1 l_n2 l_c3 w4 k) : Does Try.prog 19 #[.slice l_a1 l_n2 l_c3] w4 k := by
  refine enter 68 Try.func19 rfl rfl rfl ?_
  intro ρ hρ
  have e0 := hρ 0 _ rfl
  unfold F19 at h
  refine WC_seq ?_
  refine WC_region ?_
  refine WL_val gd0 ((o_assign (v := .pointer none) rfl) _) rfl ?_
  refine WL_val gd0 ((o_assign (v := .int .i64 0) rfl) _) rfl ?_
  refine WL_nil ?_
  refine nrm ?_
  refine WC_seq ?_
  refine WC_seq ?_
  refine WC_region ?_
  refine WL_val gd0 ((o_move (v := .slice l_a1 l_n2 l_c3) (by exact e0)) _) rfl ?_
  refine WL_val gd0 ((o_len Try.underlying56 rfl) _) rfl ?_
  refine WL_val gd0 ((o_gtr rfl rfl) _) rfl ?_
  refine WL_nil ?_
  refine nrm ?_
  refine WC_cond (t := (decide (256 < (l_n2 : Int)))) rfl (fun hb5 => ?_) (fun hb5 => ?_)
  · rw [if_pos (of_decide_eq_true hb5)] at h
    refine WC_seq ?_
    refine WC_region ?_
    refine WL_val gd0 ((o_assign (v := .pointer none) rfl) _) rfl ?_
    refine WL_val gd0 ((o_assign (v := .int .i64 6) rfl) _) rfl ?_
    refine WL_nil ?_
    refine nrm ?_
    refine WC_ret ?_
    refine rtT ?_
    refine rtE ?_
    exact gv2 rfl rfl rfl h
  · rw [if_neg (of_decide_eq_false hb5)] at h
    refine WC_skip ?_
    refine nrm ?_
    refine WC_seq ?_
    refine WC_region ?_
    refine WL_val gd0 ((o_build (ps := [(0, .bool true)]) (v := .agg #[.bool true, .slice none 0 0, .slice none 0 0]) (partCons rfl partNil) (fun w => by kernel_rfl)) _) rfl ?_
    have h := New.out h
    refine WL_val gd0 (o_box (v := .agg #[.bool true, .slice none 0 0, .slice none 0 0]) (cs := [.bool true, .slice none 0 0, .slice none 0 0]) rfl rfl) rfl ?_
    generalize hp6 : fresh w4 = p6 at h ⊢
    generalize hw7 : push w4 80 [.bool true, .slice none 0 0, .slice none 0 0] = w7 at h ⊢
    try dsimp only at h
    refine WL_val gd0 ((o_assign (v := .pointer (some p6)) rfl) _) rfl ?_
    refine WL_nil ?_
    refine nrm ?_
    refine WC_seq ?_
    refine WC_seq ?_
    refine WC_region ?_
    refine WL_val gd0 ((o_move (v := .slice l_a1 l_n2 l_c3) (by exact e0)) _) rfl ?_
    refine WL_val gd0 ((o_len Try.underlying56 rfl) _) rfl ?_
    refine WL_val gd0 ((o_move (v := .int .i64 0) rfl) _) rfl ?_
    refine WL_nil ?_
    refine nrm ?_
    refine WC_block ?_
    obtain ⟨J14, ⟨n14, h0⟩, hr14⟩ := h
    refine WC_loop (fun n ρ w' => ∃ (t13 : Int), ρ 14 = .int .i64 t13 ∧ ρ 0 = .slice l_a1 l_n2 l_c3 ∧ ρ 4 = .pointer (some p6) ∧ ρ 12 = .slice l_a1 l_n2 l_c3 ∧ ρ 13 = .int .i64 (l_n2 : Int) ∧ J14 n t13 w') ⟨n14, _, rfl, e0, rfl, rfl, rfl, h0⟩ ?_
    rintro n14 ρ w14 ⟨t13, e14_12, e0_8, e4_9, e12_10, e13_11, h⟩
    have h : F19_b1 l_n2 l_a1 p6 t13 w14 k (fun x0 w => ∃ m, m < n14 ∧ J14 m x0 w) := hr14 n14 t13 w14 h
    unfold F19_b1 at h
    refine WC_seq ?_
    refine WC_region ?_
    refine WL_val gd0 ((o_lss (by exact e14_12) (by exact e13_11)) _) rfl ?_
    refine WL_nil ?_
    refine nrm ?_
    refine WC_seq ?_
    refine WC_cond (t := (decide (t13 < (l_n2 : Int)))) rfl (fun hb16 => ?_) (fun hb16 => ?_)
    · rw [if_pos (of_decide_eq_true hb16)] at h
      refine WC_skip ?_
      refine nrm ?_
      refine WC_seq ?_
      refine WC_block ?_
      refine WC_seq ?_
      refine WC_region ?_
      refine WL_val gd0 ((o_move (v := .int .i64 t13) (by exact e14_12)) _) rfl ?_
      obtain ⟨p19, q20, h⟩ := h
      obtain ⟨l17, u18, h⟩ := h
      refine WL_val gd0 ((o_indexAddr Try.underlying56 Try.sizeOf82 (by exact (Eq.trans e12_10 (congrArg (fun z => Value.slice z l_n2 l_c3) q20))) (by exact e14_12) l17 u18) _) rfl ?_
      obtain ⟨x21, x22, x23, x24, hc25, h⟩ := h
      refine WL_val gd0 (o_loadAgg (vs := [.int .i64 x21, .int .i64 x22, .bool x23, .int .i64 x24]) Try.isAgg82 Try.sizeOf82 rfl hc25) rfl ?_
      have h := New.out h
      refine WL_val gd0 (o_alloc (z := .agg #[.int .i64 0, .int .i64 0, .bool false, .int .i64 0]) (cs := [.int .i64 0, .int .i64 0, .bool false, .int .i64 0]) Try.zeroValue82 rfl) rfl ?_
      generalize hp26 : fresh w14 = p26 at h ⊢
      generalize hw27 : push w14 82 [.int .i64 0, .int .i64 0, .bool false, .int .i64 0] = w27 at h ⊢
      try dsimp only at h
      refine WL_val gd0 ((o_assign (v := .int .i64 t13) rfl) _) rfl ?_
      obtain ⟨c29, h⟩ := h
      refine WL_act gd0 (o_storeAgg (vs := [.int .i64 x21, .int .i64 x22, .bool x23, .int .i64 x24]) Try.sizeOf82 rfl rfl rfl c29) ?_
      generalize hw28 : setAll w27 p26 0 [.int .i64 x21, .int .i64 x22, .bool x23, .int .i64 x24] = w28 at h ⊢
      try dsimp only at h
      refine WL_nil ?_
      refine nrm ?_
      refine WC_seq ?_
      refine WC_cut (fun ρ w' => ∃ (t37 : Bool), ρ 58 = .bool t37 ∧ ρ 0 = .slice l_a1 l_n2 l_c3 ∧ ρ 4 = .pointer (some p6) ∧ ρ 6 = .pointer (some p26) ∧ ρ 12 = .slice l_a1 l_n2 l_c3 ∧ ρ 13 = .int .i64 (l_n2 : Int) ∧ ρ 14 = .int .i64 t13 ∧ F19_j2 p26 p6 t13 t37 w' k (fun x0 w => ∃ m, m < n14 ∧ J14 m x0 w)) ?_ ?_
      · refine WC_draws [37] (.look 0 (.look 1 (.look 2 (.look 3 (.look 4 (.look 5 (.look 6 (.look 7 (.look 8 (.look 9 (.look 10 (.look 11 (.look 12 (.look 13 (.look 14 (.look 15 (.look 16 (.look 17 (.look 18 (.look 19 (.look 20 (.look 21 (.look 22 (.look 23 (.look 24 (.look 25 (.look 26 (.look 27 (.look 28 (.look 29 (.look 30 (.look 31 (.look 32 (.look 33 (.look 34 (.look 35 (.look 36 (.act 37 (.look 38 (.look 39 .nil)))))))))))))))))))))))))))))))))))))))) Try.mixed (by kernel_rfl) ?_
        refine WQ_val rfl gd0 (o_fieldAddr0 Try.underlying82 rfl Try.sizeOf3 rfl rfl rfl) rfl ?_
        obtain ⟨x48, hc49, h⟩ := h
        refine WQ_look (fun w => w.cell? p26 = some (.int .i64 x48)) rfl gd0 (fun w hc => (o_load Try.isAgg3 rfl hc)) hc49 rfl ?_
        refine WQ_val rfl gd0 (o_lss rfl rfl) rfl ?_
        refine WQ_val rfl gd0 (o_move (v := .bool (decide (x48 < 0))) rfl) rfl ?_
        refine bsplit (decide (x48 < 0)) (fun hb50 => ?_) (fun hb50 => ?_)
        · rw [if_pos (of_decide_eq_true hb50)] at h
          refine WQ_skip rfl (gdN (b := (decide (x48 < 0))) 22 rfl rfl hb50) rfl ?_
          refine WQ_skip rfl (gdN (b := (decide (x48 < 0))) 22 rfl rfl hb50) rfl ?_
          refine WQ_skip rfl (gdN (b := (decide (x48 < 0))) 22 rfl rfl hb50) rfl ?_
          refine WQ_val rfl gd0 (o_pickT (v := .bool true) rfl hb50 rfl) rfl ?_
          refine WQ_val rfl gd0 (o_move (v := .bool true) rfl) rfl ?_
          refine WQ_skip rfl (gdN (b := true) 27 rfl rfl rfl) rfl ?_
          refine WQ_skip rfl (gdN (b := true) 27 rfl rfl rfl) rfl ?_
          refine WQ_skip rfl (gdN (b := true) 27 rfl rfl rfl) rfl ?_
          refine WQ_skip rfl (gdU 30 rfl rfl) rfl ?_
          refine WQ_skip rfl (gdU 30 rfl rfl) rfl ?_
          refine WQ_skip rfl (gdU 30 rfl rfl) rfl ?_
          refine WQ_skip rfl (gdU 30 rfl rfl) rfl ?_
          refine WQ_skip rfl (gdU 30 rfl rfl) rfl ?_
          refine WQ_skip rfl (gdU 30 rfl rfl) rfl ?_
          refine WQ_skip rfl (gdU 30 rfl rfl) rfl ?_
          refine WQ_skip rfl (gdU 30 rfl rfl) rfl ?_
          refine WQ_skip rfl (gdU 30 rfl rfl) rfl ?_
          refine WQ_skip rfl (gdN (b := true) 27 rfl rfl rfl) rfl ?_
          refine WQ_val rfl gd0 (o_pickT (v := .bool true) rfl rfl rfl) rfl ?_
          refine WQ_val rfl gd0 (o_move (v := .bool true) rfl) rfl ?_
          refine WQ_skip rfl (gdN (b := true) 42 rfl rfl rfl) rfl ?_
          refine WQ_skip rfl (gdN (b := true) 42 rfl rfl rfl) rfl ?_
          refine WQ_skip rfl (gdN (b := true) 42 rfl rfl rfl) rfl ?_
          refine WQ_val rfl gd0 (o_pickT (v := .bool true) rfl rfl rfl) rfl ?_
          refine WQ_val rfl gd0 (o_move (v := .bool true) rfl) rfl ?_
          refine WQ_skip rfl (gdN (b := true) 47 rfl rfl rfl) rfl ?_
          refine WQ_skip rfl (gdN (b := true) 47 rfl rfl rfl) rfl ?_
          refine WQ_skip rfl (gdN (b := true) 47 rfl rfl rfl) rfl ?_
          refine WQ_val rfl gd0 (o_pickT (v := .bool true) rfl rfl rfl) rfl ?_
          refine WQ_val rfl gd0 (o_move (v := .bool true) rfl) rfl ?_
          refine WQ_skip rfl (gdN (b := true) 52 rfl rfl rfl) rfl ?_
          refine WQ_skip rfl (gdN (b := true) 52 rfl rfl rfl) rfl ?_
          refine WQ_skip rfl (gdN (b := true) 52 rfl rfl rfl) rfl ?_
          refine WQ_passAct rfl (gdN (b := true) 52 rfl rfl rfl) rfl (by exact ⟨trivial, depT (by kernel_rfl)⟩) ?_
          refine WQ_skip rfl (gdN (b := true) 52 rfl rfl rfl) rfl ?_
          refine WQ_val rfl gd0 (o_pickT (v := .bool true) rfl rfl rfl) rfl ?_
          refine WQ_nil ?_
          refine nrm ?_
          exact ⟨_, rfl, e0_8, e4_9, rfl, e12_10, e13_11, e14_12, h⟩
        · rw [if_neg (of_decide_eq_false hb50)] at h
          refine WQ_val rfl (gdY (b := (decide (x48 < 0))) 22 rfl rfl hb50) (o_fieldAddr0 Try.underlying82 rfl Try.sizeOf3 rfl rfl rfl) rfl ?_
          obtain ⟨x51, hc52, h⟩ := h
          refine WQ_look (fun w => w.cell? p26 = some (.int .i64 x51)) rfl (gdY (b := (decide (x48 < 0))) 22 rfl rfl hb50) (fun w hc => (o_load Try.isAgg3 rfl hc)) hc52 rfl ?_
          refine WQ_val rfl (gdY (b := (decide (x48 < 0))) 22 rfl rfl hb50) (o_gtr rfl rfl) rfl ?_
          refine WQ_val rfl gd0 (o_pickF (v := .bool (decide (65535 < x51))) rfl hb50 rfl) rfl ?_
          refine WQ_val rfl gd0 (o_move (v := .bool (decide (65535 < x51))) rfl) rfl ?_
          refine bsplit (decide (65535 < x51)) (fun hb53 => ?_) (fun hb53 => ?_)
          · rw [if_pos (of_decide_eq_true hb53)] at h
            refine WQ_skip rfl (gdN (b := (decide (65535 < x51))) 27 rfl rfl hb53) rfl ?_
            refine WQ_skip rfl (gdN (b := (decide (65535 < x51))) 27 rfl rfl hb53) rfl ?_
            refine WQ_skip rfl (gdN (b := (decide (65535 < x51))) 27 rfl rfl hb53) rfl ?_
            refine WQ_skip rfl (gdU 30 rfl rfl) rfl ?_
            refine WQ_skip rfl (gdU 30 rfl rfl) rfl ?_
            refine WQ_skip rfl (gdU 30 rfl rfl) rfl ?_
            refine WQ_skip rfl (gdU 30 rfl rfl) rfl ?_
            refine WQ_skip rfl (gdU 30 rfl rfl) rfl ?_
            refine WQ_skip rfl (gdU 30 rfl rfl) rfl ?_
            refine WQ_skip rfl (gdU 30 rfl rfl) rfl ?_
            refine WQ_skip rfl (gdU 30 rfl rfl) rfl ?_
            refine WQ_skip rfl (gdU 30 rfl rfl) rfl ?_
            refine WQ_skip rfl (gdN (b := (decide (65535 < x51))) 27 rfl rfl hb53) rfl ?_
            refine WQ_val rfl gd0 (o_pickT (v := .bool true) rfl hb53 rfl) rfl ?_
            refine WQ_val rfl gd0 (o_move (v := .bool true) rfl) rfl ?_
            refine WQ_skip rfl (gdN (b := true) 42 rfl rfl rfl) rfl ?_
            refine WQ_skip rfl (gdN (b := true) 42 rfl rfl rfl) rfl ?_
            refine WQ_skip rfl (gdN (b := true) 42 rfl rfl rfl) rfl ?_
            refine WQ_val rfl gd0 (o_pickT (v := .bool true) rfl rfl rfl) rfl ?_
            refine WQ_val rfl gd0 (o_move (v := .bool true) rfl) rfl ?_
            refine WQ_skip rfl (gdN (b := true) 47 rfl rfl rfl) rfl ?_
            refine WQ_skip rfl (gdN (b := true) 47 rfl rfl rfl) rfl ?_
            refine WQ_skip rfl (gdN (b := true) 47 rfl rfl rfl) rfl ?_
            refine WQ_val rfl gd0 (o_pickT (v := .bool true) rfl rfl rfl) rfl ?_
            refine WQ_val rfl gd0 (o_move (v := .bool true) rfl) rfl ?_
            refine WQ_skip rfl (gdN (b := true) 52 rfl rfl rfl) rfl ?_
            refine WQ_skip rfl (gdN (b := true) 52 rfl rfl rfl) rfl ?_
            refine WQ_skip rfl (gdN (b := true) 52 rfl rfl rfl) rfl ?_
            refine WQ_passAct rfl (gdN (b := true) 52 rfl rfl rfl) rfl (by exact ⟨⟨trivial, depT (by kernel_rfl)⟩, depT (by kernel_rfl)⟩) ?_
            refine WQ_skip rfl (gdN (b := true) 52 rfl rfl rfl) rfl ?_
            refine WQ_val rfl gd0 (o_pickT (v := .bool true) rfl rfl rfl) rfl ?_
            refine WQ_nil ?_
            refine nrm ?_
            exact ⟨_, rfl, e0_8, e4_9, rfl, e12_10, e13_11, e14_12, h⟩
          · rw [if_neg (of_decide_eq_false hb53)] at h
            refine WQ_val rfl (gdY (b := (decide (65535 < x51))) 27 rfl rfl hb53) (o_move (v := .int .i64 t13) rfl) rfl ?_
            refine WQ_val rfl (gdY (b := (decide (65535 < x51))) 27 rfl rfl hb53) (o_gtr rfl rfl) rfl ?_
            refine WQ_val rfl (gdY (b := (decide (65535 < x51))) 27 rfl rfl hb53) (o_move (v := .bool (decide (0 < t13))) rfl) rfl ?_
            refine bsplit (decide (0 < t13)) (fun hb54 => ?_) (fun hb54 => ?_)
            · rw [if_pos (of_decide_eq_true hb54)] at h
              refine WQ_val rfl (gdY (b := (decide (0 < t13))) 30 rfl rfl hb54) (o_move (v := .slice l_a1 l_n2 l_c3) (by exact e0_8)) rfl ?_
              refine WQ_val rfl (gdY (b := (decide (0 < t13))) 30 rfl rfl hb54) (o_move (v := .int .i64 t13) rfl) rfl ?_
              refine WQ_val rfl (gdY (b := (decide (0 < t13))) 30 rfl rfl hb54) (o_sub rfl rfl) rfl ?_
              obtain ⟨l55, u56, h⟩ := h
              refine WQ_val rfl (gdY (b := (decide (0 < t13))) 30 rfl rfl hb54) (o_indexAddr Try.underlying56 Try.sizeOf82 (by exact (congrArg (fun z => Value.slice z l_n2 l_c3) q20)) rfl l55 u56) rfl ?_
              refine WQ_val rfl (gdY (b := (decide (0 < t13))) 30 rfl rfl hb54) (o_fieldAddr0 Try.underlying82 rfl Try.sizeOf3 rfl rfl rfl) rfl ?_
              obtain ⟨x57, hc58, h⟩ := h
              refine WQ_look (fun w => w.cell? (p19.add (((IntKind.i64.wrap (t13 - 1)).toNat) * 4)) = some (.int .i64 x57)) rfl (gdY (b := (decide (0 < t13))) 30 rfl rfl hb54) (fun w hc => (o_load Try.isAgg3 rfl hc)) hc58 rfl ?_
              refine WQ_val rfl (gdY (b := (decide (0 < t13))) 30 rfl rfl hb54) (o_fieldAddr0 Try.underlying82 rfl Try.sizeOf3 rfl rfl rfl) rfl ?_
              obtain ⟨x59, hc60, h⟩ := h
              refine WQ_look (fun w => w.cell? p26 = some (.int .i64 x59)) rfl (gdY (b := (decide (0 < t13))) 30 rfl rfl hb54) (fun w hc => (o_load Try.isAgg3 rfl hc)) hc60 rfl ?_
              refine WQ_val rfl (gdY (b := (decide (0 < t13))) 30 rfl rfl hb54) (o_geq rfl rfl) rfl ?_
              refine WQ_val rfl (gdY (b := (decide (65535 < x51))) 27 rfl rfl hb53) (o_pickT (v := .bool (decide (x59 ≤ x57))) rfl hb54 rfl) rfl ?_
              refine WQ_val rfl gd0 (o_pickF (v := .bool (decide (x59 ≤ x57))) rfl hb53 rfl) rfl ?_
              refine WQ_val rfl gd0 (o_move (v := .bool (decide (x59 ≤ x57))) rfl) rfl ?_
              refine bsplit (decide (x59 ≤ x57)) (fun hb61 => ?_) (fun hb61 => ?_)
              · rw [if_pos (of_decide_eq_true hb61)] at h
                refine WQ_skip rfl (gdN (b := (decide (x59 ≤ x57))) 42 rfl rfl hb61) rfl ?_
                refine WQ_skip rfl (gdN (b := (decide (x59 ≤ x57))) 42 rfl rfl hb61) rfl ?_
                refine WQ_skip rfl (gdN (b := (decide (x59 ≤ x57))) 42 rfl rfl hb61) rfl ?_
                refine WQ_val rfl gd0 (o_pickT (v := .bool true) rfl hb61 rfl) rfl ?_
                refine WQ_val rfl gd0 (o_move (v := .bool true) rfl) rfl ?_
                refine WQ_skip rfl (gdN (b := true) 47 rfl rfl rfl) rfl ?_
                refine WQ_skip rfl (gdN (b := true) 47 rfl rfl rfl) rfl ?_
                refine WQ_skip rfl (gdN (b := true) 47 rfl rfl rfl) rfl ?_
                refine WQ_val rfl gd0 (o_pickT (v := .bool true) rfl rfl rfl) rfl ?_
                refine WQ_val rfl gd0 (o_move (v := .bool true) rfl) rfl ?_
                refine WQ_skip rfl (gdN (b := true) 52 rfl rfl rfl) rfl ?_
                refine WQ_skip rfl (gdN (b := true) 52 rfl rfl rfl) rfl ?_
                refine WQ_skip rfl (gdN (b := true) 52 rfl rfl rfl) rfl ?_
                refine WQ_passAct rfl (gdN (b := true) 52 rfl rfl rfl) rfl (by exact ⟨⟨⟨⟨trivial, depT (by kernel_rfl)⟩, depT (by kernel_rfl)⟩, depT (by kernel_rfl)⟩, depT (by kernel_rfl)⟩) ?_
                refine WQ_skip rfl (gdN (b := true) 52 rfl rfl rfl) rfl ?_
                refine WQ_val rfl gd0 (o_pickT (v := .bool true) rfl rfl rfl) rfl ?_
                refine WQ_nil ?_
                refine nrm ?_
                exact ⟨_, rfl, e0_8, e4_9, rfl, e12_10, e13_11, e14_12, h⟩
              · rw [if_neg (of_decide_eq_false hb61)] at h
                refine WQ_val rfl (gdY (b := (decide (x59 ≤ x57))) 42 rfl rfl hb61) (o_fieldAddr 1 Try.underlying82 rfl Try.sizeOf3 rfl rfl rfl) rfl ?_
                obtain ⟨x62, hc63, h⟩ := h
                refine WQ_look (fun w => w.cell? (p26.add 1) = some (.int .i64 x62)) rfl (gdY (b := (decide (x59 ≤ x57))) 42 rfl rfl hb61) (fun w hc => (o_load Try.isAgg3 rfl hc)) hc63 rfl ?_
                refine WQ_val rfl (gdY (b := (decide (x59 ≤ x57))) 42 rfl rfl hb61) (o_lss rfl rfl) rfl ?_
                refine WQ_val rfl gd0 (o_pickF (v := .bool (decide (x62 < 1))) rfl hb61 rfl) rfl ?_
                refine WQ_val rfl gd0 (o_move (v := .bool (decide (x62 < 1))) rfl) rfl ?_
                refine bsplit (decide (x62 < 1)) (fun hb64 => ?_) (fun hb64 => ?_)
                · rw [if_pos (of_decide_eq_true hb64)] at h
                  refine WQ_skip rfl (gdN (b := (decide (x62 < 1))) 47 rfl rfl hb64) rfl ?_
                  refine WQ_skip rfl (gdN (b := (decide (x62 < 1))) 47 rfl rfl hb64) rfl ?_
                  refine WQ_skip rfl (gdN (b := (decide (x62 < 1))) 47 rfl rfl hb64) rfl ?_
                  refine WQ_val rfl gd0 (o_pickT (v := .bool true) rfl hb64 rfl) rfl ?_
                  refine WQ_val rfl gd0 (o_move (v := .bool true) rfl) rfl ?_
                  refine WQ_skip rfl (gdN (b := true) 52 rfl rfl rfl) rfl ?_
                  refine WQ_skip rfl (gdN (b := true) 52 rfl rfl rfl) rfl ?_
                  refine WQ_skip rfl (gdN (b := true) 52 rfl rfl rfl) rfl ?_
                  refine WQ_passAct rfl (gdN (b := true) 52 rfl rfl rfl) rfl (by exact ⟨⟨⟨⟨⟨trivial, depT (by kernel_rfl)⟩, depT (by kernel_rfl)⟩, depT (by kernel_rfl)⟩, depT (by kernel_rfl)⟩, depT (by kernel_rfl)⟩) ?_
                  refine WQ_skip rfl (gdN (b := true) 52 rfl rfl rfl) rfl ?_
                  refine WQ_val rfl gd0 (o_pickT (v := .bool true) rfl rfl rfl) rfl ?_
                  refine WQ_nil ?_
                  refine nrm ?_
                  exact ⟨_, rfl, e0_8, e4_9, rfl, e12_10, e13_11, e14_12, h⟩
                · rw [if_neg (of_decide_eq_false hb64)] at h
                  refine WQ_val rfl (gdY (b := (decide (x62 < 1))) 47 rfl rfl hb64) (o_fieldAddr 1 Try.underlying82 rfl Try.sizeOf3 rfl rfl rfl) rfl ?_
                  obtain ⟨x65, hc66, h⟩ := h
                  refine WQ_look (fun w => w.cell? (p26.add 1) = some (.int .i64 x65)) rfl (gdY (b := (decide (x62 < 1))) 47 rfl rfl hb64) (fun w hc => (o_load Try.isAgg3 rfl hc)) hc66 rfl ?_
                  refine WQ_val rfl (gdY (b := (decide (x62 < 1))) 47 rfl rfl hb64) (o_gtr rfl rfl) rfl ?_
                  refine WQ_val rfl gd0 (o_pickF (v := .bool (decide (32 < x65))) rfl hb64 rfl) rfl ?_
                  refine WQ_val rfl gd0 (o_move (v := .bool (decide (32 < x65))) rfl) rfl ?_
                  refine bsplit (decide (32 < x65)) (fun hb67 => ?_) (fun hb67 => ?_)
                  · rw [if_pos (of_decide_eq_true hb67)] at h
                    refine WQ_skip rfl (gdN (b := (decide (32 < x65))) 52 rfl rfl hb67) rfl ?_
                    refine WQ_skip rfl (gdN (b := (decide (32 < x65))) 52 rfl rfl hb67) rfl ?_
                    refine WQ_skip rfl (gdN (b := (decide (32 < x65))) 52 rfl rfl hb67) rfl ?_
                    refine WQ_passAct rfl (gdN (b := (decide (32 < x65))) 52 rfl rfl hb67) rfl (by exact ⟨⟨⟨⟨⟨⟨trivial, depT (by kernel_rfl)⟩, depT (by kernel_rfl)⟩, depT (by kernel_rfl)⟩, depT (by kernel_rfl)⟩, depT (by kernel_rfl)⟩, depT (by kernel_rfl)⟩) ?_
                    refine WQ_skip rfl (gdN (b := (decide (32 < x65))) 52 rfl rfl hb67) rfl ?_
                    refine WQ_val rfl gd0 (o_pickT (v := .bool true) rfl hb67 rfl) rfl ?_
                    refine WQ_nil ?_
                    refine nrm ?_
                    exact ⟨_, rfl, e0_8, e4_9, rfl, e12_10, e13_11, e14_12, h⟩
                  · rw [if_neg (of_decide_eq_false hb67)] at h
                    obtain ⟨x68, x69, x70, x71, hc72, h⟩ := h
                    refine WQ_look (fun w => Cells w p26 0 [.int .i64 x68, .int .i64 x69, .bool x70, .int .i64 x71]) rfl (gdY (b := (decide (32 < x65))) 52 rfl rfl hb67) (fun w hc => (o_loadAgg (vs := [.int .i64 x68, .int .i64 x69, .bool x70, .int .i64 x71]) Try.isAgg82 Try.sizeOf82 rfl hc)) hc72 rfl ?_
                    refine WQ_val rfl (gdY (b := (decide (32 < x65))) 52 rfl rfl hb67) (o_fieldAddr 3 Try.underlying82 rfl Try.sizeOf3 rfl rfl rfl) rfl ?_
                    obtain ⟨x73, hc74, h⟩ := h
                    refine WQ_look (fun w => w.cell? (p26.add 3) = some (.int .i64 x73)) rfl (gdY (b := (decide (32 < x65))) 52 rfl rfl hb67) (fun w hc => (o_load Try.isAgg3 rfl hc)) hc74 rfl ?_
                    refine WQ_call rfl (gdY (b := (decide (32 < x65))) 52 rfl rfl hb67) (o_call Try.call35 (argCons rfl (argCons rfl argNil)) _) rfl (h.mono ?_)
                    rintro _ w75 ⟨x76, rfl, h⟩
                    refine ⟨⟨⟨⟨⟨⟨⟨⟨⟨trivial, depT (by kernel_rfl)⟩, depT (by kernel_rfl)⟩, depT (by kernel_rfl)⟩, depT (by kernel_rfl)⟩, depT (by kernel_rfl)⟩, depT (by kernel_rfl)⟩, depT (by kernel_rfl)⟩, depT (by kernel_rfl)⟩, ?_⟩
                    refine WQ_val rfl (gdY (b := (decide (32 < x65))) 52 rfl rfl hb67) (o_not rfl) rfl ?_
                    refine WQ_val rfl gd0 (o_pickF (v := .bool (!x76)) rfl hb67 rfl) rfl ?_
                    refine WQ_nil ?_
                    refine nrm ?_
                    exact ⟨_, rfl, e0_8, e4_9, rfl, e12_10, e13_11, e14_12, h⟩
            · rw [if_neg (of_decide_eq_false hb54)] at h
              refine WQ_skip rfl (gdN (b := (decide (0 < t13))) 30 rfl rfl hb54) rfl ?_
              refine WQ_skip rfl (gdN (b := (decide (0 < t13))) 30 rfl rfl hb54) rfl ?_
              refine WQ_skip rfl (gdN (b := (decide (0 < t13))) 30 rfl rfl hb54) rfl ?_
              refine WQ_skip rfl (gdN (b := (decide (0 < t13))) 30 rfl rfl hb54) rfl ?_
              refine WQ_skip rfl (gdN (b := (decide (0 < t13))) 30 rfl rfl hb54) rfl ?_
              refine WQ_skip rfl (gdN (b := (decide (0 < t13))) 30 rfl rfl hb54) rfl ?_
              refine WQ_skip rfl (gdN (b := (decide (0 < t13))) 30 rfl rfl hb54) rfl ?_
              refine WQ_skip rfl (gdN (b := (decide (0 < t13))) 30 rfl rfl hb54) rfl ?_
              refine WQ_skip rfl (gdN (b := (decide (0 < t13))) 30 rfl rfl hb54) rfl ?_
              refine WQ_val rfl (gdY (b := (decide (65535 < x51))) 27 rfl rfl hb53) (o_pickF (v := .bool false) rfl hb54 rfl) rfl ?_
              refine WQ_val rfl gd0 (o_pickF (v := .bool false) rfl hb53 rfl) rfl ?_
              refine WQ_val rfl gd0 (o_move (v := .bool false) rfl) rfl ?_
              refine WQ_val rfl (gdY (b := false) 42 rfl rfl rfl) (o_fieldAddr 1 Try.underlying82 rfl Try.sizeOf3 rfl rfl rfl) rfl ?_
              obtain ⟨x77, hc78, h⟩ := h
              refine WQ_look (fun w => w.cell? (p26.add 1) = some (.int .i64 x77)) rfl (gdY (b := false) 42 rfl rfl rfl) (fun w hc => (o_load Try.isAgg3 rfl hc)) hc78 rfl ?_
              refine WQ_val rfl (gdY (b := false) 42 rfl rfl rfl) (o_lss rfl rfl) rfl ?_
              refine WQ_val rfl gd0 (o_pickF (v := .bool (decide (x77 < 1))) rfl rfl rfl) rfl ?_
              refine WQ_val rfl gd0 (o_move (v := .bool (decide (x77 < 1))) rfl) rfl ?_
              refine bsplit (decide (x77 < 1)) (fun hb79 => ?_) (fun hb79 => ?_)
              · rw [if_pos (of_decide_eq_true hb79)] at h
                refine WQ_skip rfl (gdN (b := (decide (x77 < 1))) 47 rfl rfl hb79) rfl ?_
                refine WQ_skip rfl (gdN (b := (decide (x77 < 1))) 47 rfl rfl hb79) rfl ?_
                refine WQ_skip rfl (gdN (b := (decide (x77 < 1))) 47 rfl rfl hb79) rfl ?_
                refine WQ_val rfl gd0 (o_pickT (v := .bool true) rfl hb79 rfl) rfl ?_
                refine WQ_val rfl gd0 (o_move (v := .bool true) rfl) rfl ?_
                refine WQ_skip rfl (gdN (b := true) 52 rfl rfl rfl) rfl ?_
                refine WQ_skip rfl (gdN (b := true) 52 rfl rfl rfl) rfl ?_
                refine WQ_skip rfl (gdN (b := true) 52 rfl rfl rfl) rfl ?_
                refine WQ_passAct rfl (gdN (b := true) 52 rfl rfl rfl) rfl (by exact ⟨⟨⟨trivial, depT (by kernel_rfl)⟩, depT (by kernel_rfl)⟩, depT (by kernel_rfl)⟩) ?_
                refine WQ_skip rfl (gdN (b := true) 52 rfl rfl rfl) rfl ?_
                refine WQ_val rfl gd0 (o_pickT (v := .bool true) rfl rfl rfl) rfl ?_
                refine WQ_nil ?_
                refine nrm ?_
                exact ⟨_, rfl, e0_8, e4_9, rfl, e12_10, e13_11, e14_12, h⟩
              · rw [if_neg (of_decide_eq_false hb79)] at h
                refine WQ_val rfl (gdY (b := (decide (x77 < 1))) 47 rfl rfl hb79) (o_fieldAddr 1 Try.underlying82 rfl Try.sizeOf3 rfl rfl rfl) rfl ?_
                obtain ⟨x80, hc81, h⟩ := h
                refine WQ_look (fun w => w.cell? (p26.add 1) = some (.int .i64 x80)) rfl (gdY (b := (decide (x77 < 1))) 47 rfl rfl hb79) (fun w hc => (o_load Try.isAgg3 rfl hc)) hc81 rfl ?_
                refine WQ_val rfl (gdY (b := (decide (x77 < 1))) 47 rfl rfl hb79) (o_gtr rfl rfl) rfl ?_
                refine WQ_val rfl gd0 (o_pickF (v := .bool (decide (32 < x80))) rfl hb79 rfl) rfl ?_
                refine WQ_val rfl gd0 (o_move (v := .bool (decide (32 < x80))) rfl) rfl ?_
                refine bsplit (decide (32 < x80)) (fun hb82 => ?_) (fun hb82 => ?_)
                · rw [if_pos (of_decide_eq_true hb82)] at h
                  refine WQ_skip rfl (gdN (b := (decide (32 < x80))) 52 rfl rfl hb82) rfl ?_
                  refine WQ_skip rfl (gdN (b := (decide (32 < x80))) 52 rfl rfl hb82) rfl ?_
                  refine WQ_skip rfl (gdN (b := (decide (32 < x80))) 52 rfl rfl hb82) rfl ?_
                  refine WQ_passAct rfl (gdN (b := (decide (32 < x80))) 52 rfl rfl hb82) rfl (by exact ⟨⟨⟨⟨trivial, depT (by kernel_rfl)⟩, depT (by kernel_rfl)⟩, depT (by kernel_rfl)⟩, depT (by kernel_rfl)⟩) ?_
                  refine WQ_skip rfl (gdN (b := (decide (32 < x80))) 52 rfl rfl hb82) rfl ?_
                  refine WQ_val rfl gd0 (o_pickT (v := .bool true) rfl hb82 rfl) rfl ?_
                  refine WQ_nil ?_
                  refine nrm ?_
                  exact ⟨_, rfl, e0_8, e4_9, rfl, e12_10, e13_11, e14_12, h⟩
                · rw [if_neg (of_decide_eq_false hb82)] at h
                  obtain ⟨x83, x84, x85, x86, hc87, h⟩ := h
                  refine WQ_look (fun w => Cells w p26 0 [.int .i64 x83, .int .i64 x84, .bool x85, .int .i64 x86]) rfl (gdY (b := (decide (32 < x80))) 52 rfl rfl hb82) (fun w hc => (o_loadAgg (vs := [.int .i64 x83, .int .i64 x84, .bool x85, .int .i64 x86]) Try.isAgg82 Try.sizeOf82 rfl hc)) hc87 rfl ?_
                  refine WQ_val rfl (gdY (b := (decide (32 < x80))) 52 rfl rfl hb82) (o_fieldAddr 3 Try.underlying82 rfl Try.sizeOf3 rfl rfl rfl) rfl ?_
                  obtain ⟨x88, hc89, h⟩ := h
                  refine WQ_look (fun w => w.cell? (p26.add 3) = some (.int .i64 x88)) rfl (gdY (b := (decide (32 < x80))) 52 rfl rfl hb82) (fun w hc => (o_load Try.isAgg3 rfl hc)) hc89 rfl ?_
                  refine WQ_call rfl (gdY (b := (decide (32 < x80))) 52 rfl rfl hb82) (o_call Try.call35 (argCons rfl (argCons rfl argNil)) _) rfl (h.mono ?_)
                  rintro _ w90 ⟨x91, rfl, h⟩
                  refine ⟨⟨⟨⟨⟨⟨⟨trivial, depT (by kernel_rfl)⟩, depT (by kernel_rfl)⟩, depT (by kernel_rfl)⟩, depT (by kernel_rfl)⟩, depT (by kernel_rfl)⟩, depT (by kernel_rfl)⟩, ?_⟩
                  refine WQ_val rfl (gdY (b := (decide (32 < x80))) 52 rfl rfl hb82) (o_not rfl) rfl ?_
                  refine WQ_val rfl gd0 (o_pickF (v := .bool (!x91)) rfl hb82 rfl) rfl ?_
                  refine WQ_nil ?_
                  refine nrm ?_
                  exact ⟨_, rfl, e0_8, e4_9, rfl, e12_10, e13_11, e14_12, h⟩
      · rintro ρ w38 ⟨t37, e58_36, e0_30, e4_31, e6_32, e12_33, e13_34, e14_35, h⟩
        unfold F19_j2 at h
        refine WC_cond (t := t37) (by exact e58_36) (fun hb39 => ?_) (fun hb39 => ?_)
        · rw [if_pos hb39] at h
          refine WC_seq ?_
          refine WC_region ?_
          refine WL_val gd0 ((o_assign (v := .pointer none) rfl) _) rfl ?_
          refine WL_val gd0 ((o_assign (v := .int .i64 1) rfl) _) rfl ?_
          refine WL_nil ?_
          refine nrm ?_
          refine WC_ret ?_
          refine rtT ?_
          refine rtB ?_
          refine rtT ?_
          refine rtT ?_
          refine rtB ?_
          refine rtT ?_
          refine rtE ?_
          exact gv2 rfl rfl rfl h
        · rw [if_neg (neT hb39)] at h
          refine WC_skip ?_
          refine nrm ?_
          refine WC_draws [6] (.look 0 (.look 1 (.look 2 (.look 3 (.look 4 (.look 5 (.act 6 .nil))))))) Try.mixed (by kernel_rfl) ?_
          refine WQ_val rfl gd0 (o_move (v := .pointer (some p6)) (by exact e4_31)) rfl ?_
          refine WQ_val rfl gd0 (o_nilCheck rfl) rfl ?_
          refine WQ_val rfl gd0 (o_fieldAddr 1 Try.underlying80 rfl Try.sizeOf78 rfl rfl rfl) rfl ?_
          refine WQ_val rfl gd0 (o_fieldAddr0 Try.underlying82 rfl Try.sizeOf3 rfl rfl (by exact e6_32)) rfl ?_
          obtain ⟨x40, hc41, h⟩ := h
          refine WQ_look (fun w => w.cell? p26 = some (.int .i64 x40)) rfl gd0 (fun w hc => (o_load Try.isAgg3 rfl hc)) hc41 rfl ?_
          obtain ⟨x42, x43, x44, x45, hc46, h⟩ := h
          refine WQ_look (fun w => Cells w p26 0 [.int .i64 x42, .int .i64 x43, .bool x44, .int .i64 x45]) rfl gd0 (fun w hc => (o_loadAgg (vs := [.int .i64 x42, .int .i64 x43, .bool x44, .int .i64 x45]) Try.isAgg82 Try.sizeOf82 (by exact e6_32) hc)) hc46 rfl ?_
          refine WQ_call rfl gd0 (o_call Try.call36 (argCons rfl (argCons rfl (argCons rfl argNil))) _) rfl (h.mono ?_)
          rintro _ w47 ⟨rfl, h⟩
          refine ⟨⟨⟨trivial, depT (by kernel_rfl)⟩, depT (by kernel_rfl)⟩, ?_⟩
          refine WQ_nil ?_
          refine nrmB ?_
          refine nrm ?_
          refine WC_region ?_
          refine WL_val gd0 ((o_add (by exact e14_35) rfl) _) rfl ?_
          refine WL_val gd0 ((o_move (v := .int .i64 (IntKind.i64.wrap (t13 + 1))) rfl) _) rfl ?_
          refine WL_nil ?_
          refine nrm ?_
          obtain ⟨m15, hm15, h⟩ := h
          exact ⟨m15, hm15, _, rfl, e0_30, e4_31, e12_33, e13_34, h⟩
    · rw [if_neg (of_decide_eq_false hb16)] at h
      refine WC_exit ?_
      refine exT ?_
      refine exT ?_
      refine exB ?_
      refine nrm ?_
      refine WC_seq ?_
      refine WC_region ?_
      refine WL_val gd0 ((o_move (v := .pointer (some p6)) (by exact e4_9)) _) rfl ?_
      refine WL_val gd0 ((o_assign (v := .pointer (some p6)) rfl) _) rfl ?_
      refine WL_val gd0 ((o_assign (v := .int .i64 0) rfl) _) rfl ?_
      refine WL_nil ?_
      refine nrm ?_
      refine WC_ret ?_
      refine rtE ?_
      exact gv2 rfl rfl rfl h

/-- (*spacecraft hk.Service).ok -/
def F20 (s1 : Option Addr) (w2 : World) (k : Value → World → Prop) : Prop :=
  if (!(s1).isNone) = true then
  ∃ (p4 : Addr), s1 = some p4 ∧ ∃ (x6 : Bool), w2.cell? p4 = some (.bool x6) ∧ k (.bool x6) w2
else
  k (.bool false) w2
set_option maxRecDepth 100000 in
set_option maxHeartbeats 2000000 in
theorem w20 (s1 : Option Addr) (w2 : World) (k : Value → World → Prop) (h : F20 s1 w2 k) : Does Try.prog 20 #[.pointer s1] w2 k := by
  refine enter 11 Try.func20 rfl rfl rfl ?_
  intro ρ hρ
  have e0 := hρ 0 _ rfl
  unfold F20 at h
  refine WC_seq ?_
  refine WC_region ?_
  refine WL_val gd0 ((o_assign (v := .bool false) rfl) _) rfl ?_
  refine WL_nil ?_
  refine nrm ?_
  refine WC_seq ?_
  refine WC_region ?_
  refine WL_val gd0 ((o_move (v := .pointer s1) (by exact e0)) _) rfl ?_
  refine WL_val gd0 ((o_neqPtrNil Try.underlying22 rfl rfl) _) rfl ?_
  refine WL_val gd0 ((o_move (v := .bool (!(s1).isNone)) rfl) _) rfl ?_
  refine bsplit (!(s1).isNone) (fun hb3 => ?_) (fun hb3 => ?_)
  · rw [if_pos hb3] at h
    refine WL_val (gdY (b := (!(s1).isNone)) 5 rfl rfl hb3) ((o_move (v := .pointer s1) (by exact e0)) _) rfl ?_
    obtain ⟨p4, q5, h⟩ := h
    refine WL_val (gdY (b := (!(s1).isNone)) 5 rfl rfl hb3) ((o_nilCheck (by exact (congrArg Value.pointer q5))) _) rfl ?_
    refine WL_val (gdY (b := (!(s1).isNone)) 5 rfl rfl hb3) ((o_fieldAddr0 Try.underlying47 rfl Try.sizeOf4 rfl rfl rfl) _) rfl ?_
    obtain ⟨x6, hc7, h⟩ := h
    refine WL_val (gdY (b := (!(s1).isNone)) 5 rfl rfl hb3) (o_load Try.isAgg4 rfl hc7) rfl ?_
    refine WL_val gd0 ((o_pickT (v := .bool x6) rfl hb3 rfl) _) rfl ?_
    refine WL_val gd0 ((o_assign (v := .bool x6) rfl) _) rfl ?_
    refine WL_nil ?_
    refine nrm ?_
    refine WC_ret ?_
    refine rtE ?_
    exact gv1 rfl rfl h
  · rw [if_neg (neT hb3)] at h
    refine WL_skip (gdN (b := (!(s1).isNone)) 5 rfl rfl hb3) rfl ?_
    refine WL_skip (gdN (b := (!(s1).isNone)) 5 rfl rfl hb3) rfl ?_
    refine WL_skip (gdN (b := (!(s1).isNone)) 5 rfl rfl hb3) rfl ?_
    refine WL_skip (gdN (b := (!(s1).isNone)) 5 rfl rfl hb3) rfl ?_
    refine WL_val gd0 ((o_pickF (v := .bool false) rfl hb3 rfl) _) rfl ?_
    refine WL_val gd0 ((o_assign (v := .bool false) rfl) _) rfl ?_
    refine WL_nil ?_
    refine nrm ?_
    refine WC_ret ?_
    refine rtE ?_
    exact gv1 rfl rfl h

/-- spacecraft hk.number -/
def F21 (n1 : Int) (w2 : World) (k : Value → World → Prop) : Prop :=
  if 0 ≤ n1 then
  k (.bool (decide (n1 ≤ 65535))) w2
else
  k (.bool false) w2
set_option maxRecDepth 100000 in
set_option maxHeartbeats 2000000 in
theorem w21 (n1 : Int) (w2 : World) (k : Value → World → Prop) (h : F21 n1 w2 k) : Does Try.prog 21 #[.int .i64 n1] w2 k := by
  refine enter 9 Try.func21 rfl rfl rfl ?_
  intro ρ hρ
  have e0 := hρ 0 _ rfl
  unfold F21 at h
  refine WC_seq ?_
  refine WC_region ?_
  refine WL_val gd0 ((o_assign (v := .bool false) rfl) _) rfl ?_
  refine WL_nil ?_
  refine nrm ?_
  refine WC_seq ?_
  refine WC_region ?_
  refine WL_val gd0 ((o_move (v := .int .i64 n1) (by exact e0)) _) rfl ?_
  refine WL_val gd0 ((o_geq rfl rfl) _) rfl ?_
  refine WL_val gd0 ((o_move (v := .bool (decide (0 ≤ n1))) rfl) _) rfl ?_
  refine bsplit (decide (0 ≤ n1)) (fun hb3 => ?_) (fun hb3 => ?_)
  · rw [if_pos (of_decide_eq_true hb3)] at h
    refine WL_val (gdY (b := (decide (0 ≤ n1))) 5 rfl rfl hb3) ((o_move (v := .int .i64 n1) (by exact e0)) _) rfl ?_
    refine WL_val (gdY (b := (decide (0 ≤ n1))) 5 rfl rfl hb3) ((o_leq rfl rfl) _) rfl ?_
    refine WL_val gd0 ((o_pickT (v := .bool (decide (n1 ≤ 65535))) rfl hb3 rfl) _) rfl ?_
    refine WL_val gd0 ((o_assign (v := .bool (decide (n1 ≤ 65535))) rfl) _) rfl ?_
    refine WL_nil ?_
    refine nrm ?_
    refine WC_ret ?_
    refine rtE ?_
    exact gv1 rfl rfl h
  · rw [if_neg (of_decide_eq_false hb3)] at h
    refine WL_skip (gdN (b := (decide (0 ≤ n1))) 5 rfl rfl hb3) rfl ?_
    refine WL_skip (gdN (b := (decide (0 ≤ n1))) 5 rfl rfl hb3) rfl ?_
    refine WL_val gd0 ((o_pickF (v := .bool false) rfl hb3 rfl) _) rfl ?_
    refine WL_val gd0 ((o_assign (v := .bool false) rfl) _) rfl ?_
    refine WL_nil ?_
    refine nrm ?_
    refine WC_ret ?_
    refine rtE ?_
    exact gv1 rfl rfl h

/-- (*spacecraft hk.Service).find -/
def F22 (s1 : Option Addr) (id2 : Int) (w3 : World) (k : Value → World → Prop) : Prop :=
  ∃ (p4 : Addr), s1 = some p4 ∧ ∃ (x_a6 : Option Addr) (x_n7 x_c8 : Nat), w3.cell? (p4.add 2) = some (.slice x_a6 x_n7 x_c8) ∧ Does Try.prog 37 #[.slice x_a6 x_n7 x_c8, .int .i64 id2, .func (.func 38) #[] #[]] w3 (fun v w10 => ∃ (r11 : Int) (r12 : Bool), v = .tuple #[.int .i64 r11, .bool r12] ∧ k (.tuple #[.int .i64 r11, .bool r12]) w10)
set_option maxRecDepth 100000 in
set_option maxHeartbeats 2000000 in
theorem w22 (s1 : Option Addr) (id2 : Int) (w3 : World) (k : Value → World → Prop) (h : F22 s1 id2 w3 k) : Does Try.prog 22 #[.pointer s1, .int .i64 id2] w3 k := by
  refine enter 14 Try.func22 rfl rfl rfl ?_
  intro ρ hρ
  have e0 := hρ 0 _ rfl
  have e1 := hρ 1 _ rfl
  unfold F22 at h
  refine WC_seq ?_
  refine WC_region ?_
  refine WL_val gd0 ((o_assign (v := .int .i64 0) rfl) _) rfl ?_
  refine WL_val gd0 ((o_assign (v := .bool false) rfl) _) rfl ?_
  refine WL_nil ?_
  refine nrm ?_
  refine WC_seq ?_
  refine WC_region ?_
  refine WL_val gd0 ((o_move (v := .pointer s1) (by exact e0)) _) rfl ?_
  obtain ⟨p4, q5, h⟩ := h
  refine WL_val gd0 ((o_nilCheck (by exact (congrArg Value.pointer q5))) _) rfl ?_
  refine WL_val gd0 ((o_fieldAddr 2 Try.underlying47 rfl Try.sizeOf45 rfl rfl rfl) _) rfl ?_
  obtain ⟨x_a6, x_n7, x_c8, hc9, h⟩ := h
  refine WL_val gd0 (o_load Try.isAgg45 rfl hc9) rfl ?_
  refine WL_val gd0 ((o_move (v := .int .i64 id2) (by exact e1)) _) rfl ?_
  refine WL_call gd0 (o_call Try.call37 (argCons rfl (argCons rfl (argCons rfl argNil))) _) rfl (h.mono ?_)
  rintro _ w10 ⟨r11, r12, rfl, h⟩
  refine WL_val gd0 ((o_extract (vs := [.int .i64 r11, .bool r12]) (r := .int .i64 r11) rfl rfl) _) rfl ?_
  refine WL_val gd0 ((o_extract (vs := [.int .i64 r11, .bool r12]) (r := .bool r12) rfl rfl) _) rfl ?_
  refine WL_val gd0 ((o_assign (v := .int .i64 r11) rfl) _) rfl ?_
  refine WL_val gd0 ((o_assign (v := .bool r12) rfl) _) rfl ?_
  refine WL_nil ?_
  refine nrm ?_
  refine WC_ret ?_
  refine rtE ?_
  exact gv2 rfl rfl rfl h

/-- slices.Clone   int,int  -/
def F23 (s_a1 : Option Addr) (s_n2 : Nat) (s_c3 : Nat) (w4 : World) (k : Value → World → Prop) : Prop :=
  if (s_a1).isNone = true then
  k (.slice none 0 0) w4
else
  New w4 3 [] (fun p6 w7 => ∃ (b_a8 : Option Addr) (b_n9 b_c10 : Nat) (w11 : World), (Builtin.append_ #[26, 26] 26 #[.slice (some p6) 0 0, .slice s_a1 s_n2 s_c3]).run Try.prog w7 = .ok (.slice b_a8 b_n9 b_c10) w11 ∧ k (.slice b_a8 b_n9 b_c10) w11)
set_option maxRecDepth 100000 in
set_option maxHeartbeats 2000000 in
theorem w23 (s_a1 : Option Addr) (s_n2 : Nat) (s_c3 : Nat) (w4 : World) (k : Value → World → Prop) (h : F23 s_a1 s_n2 s_c3 w4 k) : Does Try.prog 23 #[.slice s_a1 s_n2 s_c3] w4 k := by
  refine enter 8 Try.func23 rfl rfl rfl ?_
  intro ρ hρ
  have e0 := hρ 0 _ rfl
  unfold F23 at h
  refine WC_seq ?_
  refine WC_region ?_
  refine WL_val gd0 ((o_assign (v := .slice none 0 0) rfl) _) rfl ?_
  refine WL_nil ?_
  refine nrm ?_
  refine WC_seq ?_
  refine WC_seq ?_
  refine WC_region ?_
  refine WL_val gd0 ((o_move (v := .slice s_a1 s_n2 s_c3) (by exact e0)) _) rfl ?_
  refine WL_val gd0 ((o_eqlSliceNil Try.underlying26 rfl rfl) _) rfl ?_
  refine WL_nil ?_
  refine nrm ?_
  refine WC_cond (t := ((s_a1).isNone)) rfl (fun hb5 => ?_) (fun hb5 => ?_)
  · rw [if_pos hb5] at h
    refine WC_seq ?_
    refine WC_region ?_
    refine WL_val gd0 ((o_assign (v := .slice none 0 0) rfl) _) rfl ?_
    refine WL_nil ?_
    refine nrm ?_
    refine WC_ret ?_
    refine rtT ?_
    refine rtE ?_
    exact gv1 rfl rfl h
  · rw [if_neg (neT hb5)] at h
    refine WC_skip ?_
    refine nrm ?_
    refine WC_seq ?_
    refine WC_region ?_
    have h := New.out h
    refine WL_val gd0 (o_buildSlice (e := 3) (ps := []) (cs := []) partNil (fun w => by kernel_rfl)) rfl ?_
    generalize hp6 : fresh w4 = p6 at h ⊢
    generalize hw7 : push w4 3 [] = w7 at h ⊢
    try dsimp only at h
    refine WL_val gd0 ((o_move (v := .slice s_a1 s_n2 s_c3) (by exact e0)) _) rfl ?_
    obtain ⟨b_a8, b_n9, b_c10, w11, r12, h⟩ := h
    refine WL_val gd0 (o_append rfl rfl r12) rfl ?_
    refine WL_val gd0 ((o_assign (v := .slice b_a8 b_n9 b_c10) rfl) _) rfl ?_
    refine WL_nil ?_
    refine nrm ?_
    refine WC_ret ?_
    refine rtE ?_
    exact gv1 rfl rfl h

/-- slices.Insert   spacecraft hk.entry,spacecraft hk.entry  -/
def F24 (s_a1 : Option Addr) (s_n2 : Nat) (s_c3 : Nat) (i4 : Int) (v_a5 : Option Addr) (v_n6 : Nat) (v_c7 : Nat) (w8 : World) (k : Value → World → Prop) : Prop :=
  (0 : Int) ≤ i4 ∧ i4 ≤ (s_n2 : Int) ∧ if (v_n6 : Int) = 0 then
  k (.slice s_a1 s_n2 s_c3) w8
else
  if i4 = (s_n2 : Int) then
    ∃ (b_a13 : Option Addr) (b_n14 b_c15 : Nat) (w16 : World), (Builtin.append_ #[45, 45] 45 #[.slice s_a1 s_n2 s_c3, .slice v_a5 v_n6 v_c7]).run Try.prog w8 = .ok (.slice b_a13 b_n14 b_c15) w16 ∧ k (.slice b_a13 b_n14 b_c15) w16
  else
    if (s_c3 : Int) < (IntKind.i64.wrap ((s_n2 : Int) + (v_n6 : Int))) then
      (0 : Int) ≤ i4 ∧ i4 ≤ (s_c3 : Int) ∧ ∃ (b_a21 : Option Addr) (b_n22 b_c23 : Nat) (w24 : World), (Builtin.append_ #[45, 3] 45 #[.slice s_a1 i4.toNat s_c3, .int .i64 (IntKind.i64.wrap ((IntKind.i64.wrap ((s_n2 : Int) + (v_n6 : Int))) - i4))]).run Try.prog w8 = .ok (.slice b_a21 b_n22 b_c23) w24 ∧ (0 : Int) ≤ i4 ∧ i4 ≤ (b_n22 : Int) ∧ ∃ (n28 : Int) (w29 : World), (Builtin.copy_ #[45, 45] 3 #[.slice (cutA b_a21 b_c23 i4.toNat 5) (b_n22 - i4.toNat) (b_c23 - i4.toNat), .slice v_a5 v_n6 v_c7]).run Try.prog w24 = .ok (.int .i64 n28) w29 ∧ (0 : Int) ≤ IntKind.i64.wrap (i4 + (v_n6 : Int)) ∧ IntKind.i64.wrap (i4 + (v_n6 : Int)) ≤ (b_n22 : Int) ∧ (0 : Int) ≤ i4 ∧ i4 ≤ (s_n2 : Int) ∧ ∃ (n35 : Int) (w36 : World), (Builtin.copy_ #[45, 45] 3 #[.slice (cutA b_a21 b_c23 ((IntKind.i64.wrap (i4 + (v_n6 : Int))).toNat) 5) (b_n22 - (IntKind.i64.wrap (i4 + (v_n6 : Int))).toNat) (b_c23 - (IntKind.i64.wrap (i4 + (v_n6 : Int))).toNat), .slice (cutA s_a1 s_c3 i4.toNat 5) (s_n2 - i4.toNat) (s_c3 - i4.toNat)]).run Try.prog w29.drew = .ok (.int .i64 n35) w36 ∧ k (.slice b_a21 b_n22 b_c23) w36
    else
      (0 : Int) ≤ IntKind.i64.wrap ((s_n2 : Int) + (v_n6 : Int)) ∧ IntKind.i64.wrap ((s_n2 : Int) + (v_n6 : Int)) ≤ (s_c3 : Int) ∧ (0 : Int) ≤ IntKind.i64.wrap (i4 + (v_n6 : Int)) ∧ IntKind.i64.wrap (i4 + (v_n6 : Int)) ≤ (((IntKind.i64.wrap ((s_n2 : Int) + (v_n6 : Int))).toNat : Nat) : Int) ∧ ∃ (x42 : Bool) (w43 : World), (callFunc 39 #[.slice v_a5 v_n6 v_c7, .slice (cutA s_a1 s_c3 ((IntKind.i64.wrap (i4 + (v_n6 : Int))).toNat) 5) (((IntKind.i64.wrap ((s_n2 : Int) + (v_n6 : Int))).toNat) - (IntKind.i64.wrap (i4 + (v_n6 : Int))).toNat) (s_c3 - (IntKind.i64.wrap (i4 + (v_n6 : Int))).toNat)]).run Try.prog w8 = .ok (.value (.bool x42)) w43 ∧ if (!x42) = true then
        (0 : Int) ≤ IntKind.i64.wrap (i4 + (v_n6 : Int)) ∧ IntKind.i64.wrap (i4 + (v_n6 : Int)) ≤ (((IntKind.i64.wrap ((s_n2 : Int) + (v_n6 : Int))).toNat : Nat) : Int) ∧ (0 : Int) ≤ i4 ∧ i4 ≤ (((IntKind.i64.wrap ((s_n2 : Int) + (v_n6 : Int))).toNat : Nat) : Int) ∧ ∃ (n50 : Int) (w51 : World), (Builtin.copy_ #[45, 45] 3 #[.slice (cutA s_a1 s_c3 ((IntKind.i64.wrap (i4 + (v_n6 : Int))).toNat) 5) (((IntKind.i64.wrap ((s_n2 : Int) + (v_n6 : Int))).toNat) - (IntKind.i64.wrap (i4 + (v_n6 : Int))).toNat) (s_c3 - (IntKind.i64.wrap (i4 + (v_n6 : Int))).toNat), .slice (cutA s_a1 s_c3 i4.toNat 5) (((IntKind.i64.wrap ((s_n2 : Int) + (v_n6 : Int))).toNat) - i4.toNat) (s_c3 - i4.toNat)]).run Try.prog w43.drew = .ok (.int .i64 n50) w51 ∧ (0 : Int) ≤ i4 ∧ i4 ≤ (((IntKind.i64.wrap ((s_n2 : Int) + (v_n6 : Int))).toNat : Nat) : Int) ∧ ∃ (n55 : Int) (w56 : World), (Builtin.copy_ #[45, 45] 3 #[.slice (cutA s_a1 s_c3 i4.toNat 5) (((IntKind.i64.wrap ((s_n2 : Int) + (v_n6 : Int))).toNat) - i4.toNat) (s_c3 - i4.toNat), .slice v_a5 v_n6 v_c7]).run Try.prog w51 = .ok (.int .i64 n55) w56 ∧ k (.slice s_a1 ((IntKind.i64.wrap ((s_n2 : Int) + (v_n6 : Int))).toNat) s_c3) w56
      else
        (0 : Int) ≤ (s_n2 : Int) ∧ (s_n2 : Int) ≤ (((IntKind.i64.wrap ((s_n2 : Int) + (v_n6 : Int))).toNat : Nat) : Int) ∧ ∃ (n60 : Int) (w61 : World), (Builtin.copy_ #[45, 45] 3 #[.slice (cutA s_a1 s_c3 ((s_n2 : Int).toNat) 5) (((IntKind.i64.wrap ((s_n2 : Int) + (v_n6 : Int))).toNat) - (s_n2 : Int).toNat) (s_c3 - (s_n2 : Int).toNat), .slice v_a5 v_n6 v_c7]).run Try.prog w43 = .ok (.int .i64 n60) w61 ∧ (0 : Int) ≤ i4 ∧ i4 ≤ (((IntKind.i64.wrap ((s_n2 : Int) + (v_n6 : Int))).toNat : Nat) : Int) ∧ Does Try.prog 40 #[.slice (cutA s_a1 s_c3 i4.toNat 5) (((IntKind.i64.wrap ((s_n2 : Int) + (v_n6 : Int))).toNat) - i4.toNat) (s_c3 - i4.toNat), .int .i64 (v_n6 : Int)] w61 (fun v w65 => v = .tuple #[] ∧ k (.slice s_a1 ((IntKind.i64.wrap ((s_n2 : Int) + (v_n6 : Int))).toNat) s_c3) w65)
set_option maxRecDepth 100000 in
set_option maxHeartbeats 2000000 in
theorem w24 (s_a1 : Option Addr) (s_n2 : Nat) (s_c3 : Nat) (i4 : Int) (v_a5 : Option Addr) (v_n6 : Nat) (v_c7 : Nat) (w8 : World) (k : Value → World → Prop) (h : F24 s_a1 s_n2 s_c3 i4 v_a5 v_n6 v_c7 w8 k) : Does Try.prog 24 #[.slice s_a1 s_n2 s_c3, .int .i64 i4, .slice v_a5 v_n6 v_c7] w8 k := by
  refine enter 95 Try.func24 rfl rfl rfl ?_
  intro ρ hρ
  have e0 := hρ 0 _ rfl
  have e1 := hρ 1 _ rfl
  have e2 := hρ 2 _ rfl
  unfold F24 at h
  refine WC_seq ?_
  refine WC_region ?_
  refine WL_val gd0 ((o_assign (v := .slice none 0 0) rfl) _) rfl ?_
  refine WL_nil ?_
  refine nrm ?_
  refine WC_seq ?_
  refine WC_region ?_
  refine WL_val gd0 ((o_move (v := .slice s_a1 s_n2 s_c3) (by exact e0)) _) rfl ?_
  refine WL_val gd0 ((o_move (v := .int .i64 i4) (by exact e1)) _) rfl ?_
  obtain ⟨c9, c10, h⟩ := h
  refine WL_val gd0 ((o_sliceL Try.underlying45 Try.sizeOf66 rfl rfl c9 c10) _) rfl ?_
  refine WL_nil ?_
  refine nrm ?_
  refine WC_seq ?_
  refine WC_region ?_
  refine WL_val gd0 ((o_move (v := .slice v_a5 v_n6 v_c7) (by exact e2)) _) rfl ?_
  refine WL_val gd0 ((o_len Try.underlying45 rfl) _) rfl ?_
  refine WL_val gd0 ((o_assign (v := .int .i64 (v_n6 : Int)) rfl) _) rfl ?_
  refine WL_nil ?_
  refine nrm ?_
  refine WC_seq ?_
  refine WC_seq ?_
  refine WC_region ?_
  refine WL_val gd0 ((o_move (v := .int .i64 (v_n6 : Int)) rfl) _) rfl ?_
  refine WL_val gd0 ((o_eql rfl rfl) _) rfl ?_
  refine WL_nil ?_
  refine nrm ?_
  refine WC_cond (t := (decide ((v_n6 : Int) = 0))) rfl (fun hb11 => ?_) (fun hb11 => ?_)
  · rw [if_pos (of_decide_eq_true hb11)] at h
    refine WC_seq ?_
    refine WC_region ?_
    refine WL_val gd0 ((o_move (v := .slice s_a1 s_n2 s_c3) (by exact e0)) _) rfl ?_
    refine WL_val gd0 ((o_assign (v := .slice s_a1 s_n2 s_c3) rfl) _) rfl ?_
    refine WL_nil ?_
    refine nrm ?_
    refine WC_ret ?_
    refine rtT ?_
    refine rtE ?_
    exact gv1 rfl rfl h
  · rw [if_neg (of_decide_eq_false hb11)] at h
    refine WC_skip ?_
    refine nrm ?_
    refine WC_seq ?_
    refine WC_region ?_
    refine WL_val gd0 ((o_move (v := .slice s_a1 s_n2 s_c3) (by exact e0)) _) rfl ?_
    refine WL_val gd0 ((o_len Try.underlying45 rfl) _) rfl ?_
    refine WL_val gd0 ((o_assign (v := .int .i64 (s_n2 : Int)) rfl) _) rfl ?_
    refine WL_nil ?_
    refine nrm ?_
    refine WC_seq ?_
    refine WC_seq ?_
    refine WC_region ?_
    refine WL_val gd0 ((o_move (v := .int .i64 i4) (by exact e1)) _) rfl ?_
    refine WL_val gd0 ((o_move (v := .int .i64 (s_n2 : Int)) rfl) _) rfl ?_
    refine WL_val gd0 ((o_eql rfl rfl) _) rfl ?_
    refine WL_nil ?_
    refine nrm ?_
    refine WC_cond (t := (decide (i4 = (s_n2 : Int)))) rfl (fun hb12 => ?_) (fun hb12 => ?_)
    · rw [if_pos (of_decide_eq_true hb12)] at h
      refine WC_seq ?_
      refine WC_region ?_
      refine WL_val gd0 ((o_move (v := .slice s_a1 s_n2 s_c3) (by exact e0)) _) rfl ?_
      refine WL_val gd0 ((o_move (v := .slice v_a5 v_n6 v_c7) (by exact e2)) _) rfl ?_
      obtain ⟨b_a13, b_n14, b_c15, w16, r17, h⟩ := h
      refine WL_val gd0 (o_append rfl rfl r17) rfl ?_
      refine WL_val gd0 ((o_assign (v := .slice b_a13 b_n14 b_c15) rfl) _) rfl ?_
      refine WL_nil ?_
      refine nrm ?_
      refine WC_ret ?_
      refine rtT ?_
      refine rtE ?_
      exact gv1 rfl rfl h
    · rw [if_neg (of_decide_eq_false hb12)] at h
      refine WC_skip ?_
      refine nrm ?_
      refine WC_seq ?_
      refine WC_seq ?_
      refine WC_region ?_
      refine WL_val gd0 ((o_move (v := .int .i64 (s_n2 : Int)) rfl) _) rfl ?_
      refine WL_val gd0 ((o_move (v := .int .i64 (v_n6 : Int)) rfl) _) rfl ?_
      refine WL_val gd0 ((o_add rfl rfl) _) rfl ?_
      refine WL_val gd0 ((o_move (v := .slice s_a1 s_n2 s_c3) (by exact e0)) _) rfl ?_
      refine WL_val gd0 ((o_cap Try.underlying45 rfl (fun w => by kernel_rfl)) _) rfl ?_
      refine WL_val gd0 ((o_gtr rfl rfl) _) rfl ?_
      refine WL_nil ?_
      refine nrm ?_
      refine WC_cond (t := (decide ((s_c3 : Int) < (IntKind.i64.wrap ((s_n2 : Int) + (v_n6 : Int)))))) rfl (fun hb18 => ?_) (fun hb18 => ?_)
      · rw [if_pos (of_decide_eq_true hb18)] at h
        refine WC_seq ?_
        refine WC_region ?_
        refine WL_val gd0 ((o_move (v := .slice s_a1 s_n2 s_c3) (by exact e0)) _) rfl ?_
        refine WL_val gd0 ((o_move (v := .int .i64 i4) (by exact e1)) _) rfl ?_
        obtain ⟨c19, c20, h⟩ := h
        refine WL_val gd0 ((o_sliceH Try.underlying45 Try.sizeOf66 rfl rfl c19 c20) _) rfl ?_
        refine WL_val gd0 ((o_move (v := .int .i64 (s_n2 : Int)) rfl) _) rfl ?_
        refine WL_val gd0 ((o_move (v := .int .i64 (v_n6 : Int)) rfl) _) rfl ?_
        refine WL_val gd0 ((o_add rfl rfl) _) rfl ?_
        refine WL_val gd0 ((o_move (v := .int .i64 i4) (by exact e1)) _) rfl ?_
        refine WL_val gd0 ((o_sub rfl rfl) _) rfl ?_
        obtain ⟨b_a21, b_n22, b_c23, w24, r25, h⟩ := h
        refine WL_val gd0 (o_append rfl rfl r25) rfl ?_
        refine WL_val gd0 ((o_assign (v := .slice b_a21 b_n22 b_c23) rfl) _) rfl ?_
        refine WL_nil ?_
        refine nrm ?_
        refine WC_seq ?_
        refine WC_region ?_
        refine WL_val gd0 ((o_move (v := .slice b_a21 b_n22 b_c23) rfl) _) rfl ?_
        refine WL_val gd0 ((o_move (v := .int .i64 i4) (by exact e1)) _) rfl ?_
        obtain ⟨c26, c27, h⟩ := h
        refine WL_val gd0 ((o_sliceL Try.underlying45 Try.sizeOf66 rfl rfl c26 c27) _) rfl ?_
        refine WL_val gd0 ((o_move (v := .slice v_a5 v_n6 v_c7) (by exact e2)) _) rfl ?_
        obtain ⟨n28, w29, r30, h⟩ := h
        refine WL_val gd0 (o_copy rfl rfl r30) rfl ?_
        refine WL_nil ?_
        refine nrm ?_
        refine WC_seq ?_
        refine WC_draws [8] (.look 0 (.look 1 (.look 2 (.look 3 (.look 4 (.look 5 (.look 6 (.look 7 (.act 8 .nil))))))))) Try.mixed (by kernel_rfl) ?_
        refine WQ_val rfl gd0 (o_move (v := .slice b_a21 b_n22 b_c23) rfl) rfl ?_
        refine WQ_val rfl gd0 (o_move (v := .int .i64 i4) (by exact e1)) rfl ?_
        refine WQ_val rfl gd0 (o_move (v := .int .i64 (v_n6 : Int)) rfl) rfl ?_
        refine WQ_val rfl gd0 (o_add rfl rfl) rfl ?_
        obtain ⟨c31, c32, h⟩ := h
        refine WQ_val rfl gd0 (o_sliceL Try.underlying45 Try.sizeOf66 rfl rfl c31 c32) rfl ?_
        refine WQ_val rfl gd0 (o_move (v := .slice s_a1 s_n2 s_c3) (by exact e0)) rfl ?_
        refine WQ_val rfl gd0 (o_move (v := .int .i64 i4) (by exact e1)) rfl ?_
        obtain ⟨c33, c34, h⟩ := h
        refine WQ_val rfl gd0 (o_sliceL Try.underlying45 Try.sizeOf66 rfl rfl c33 c34) rfl ?_
        obtain ⟨n35, w36, r37, h⟩ := h
        refine WQ_act rfl gd0 (o_copy rfl rfl r37) rfl (by exact trivial) ?_
        refine WQ_nil ?_
        refine nrm ?_
        refine WC_seq ?_
        refine WC_region ?_
        refine WL_val gd0 ((o_move (v := .slice b_a21 b_n22 b_c23) rfl) _) rfl ?_
        refine WL_val gd0 ((o_assign (v := .slice b_a21 b_n22 b_c23) rfl) _) rfl ?_
        refine WL_nil ?_
        refine nrm ?_
        refine WC_ret ?_
        refine rtT ?_
        refine rtE ?_
        exact gv1 rfl rfl h
      · rw [if_neg (of_decide_eq_false hb18)] at h
        refine WC_skip ?_
        refine nrm ?_
        refine WC_seq ?_
        refine WC_region ?_
        refine WL_val gd0 ((o_move (v := .slice s_a1 s_n2 s_c3) (by exact e0)) _) rfl ?_
        refine WL_val gd0 ((o_move (v := .int .i64 (s_n2 : Int)) rfl) _) rfl ?_
        refine WL_val gd0 ((o_move (v := .int .i64 (v_n6 : Int)) rfl) _) rfl ?_
        refine WL_val gd0 ((o_add rfl rfl) _) rfl ?_
        obtain ⟨c38, c39, h⟩ := h
        refine WL_val gd0 ((o_sliceH Try.underlying45 Try.sizeOf66 rfl rfl c38 c39) _) rfl ?_
        refine WL_val gd0 ((o_assign (v := .slice s_a1 ((IntKind.i64.wrap ((s_n2 : Int) + (v_n6 : Int))).toNat) s_c3) rfl) _) rfl ?_
        refine WL_nil ?_
        refine nrm ?_
        refine WC_seq ?_
        refine WC_seq ?_
        refine WC_region ?_
        refine WL_val gd0 ((o_move (v := .slice v_a5 v_n6 v_c7) (by exact e2)) _) rfl ?_
        refine WL_val gd0 ((o_move (v := .slice s_a1 ((IntKind.i64.wrap ((s_n2 : Int) + (v_n6 : Int))).toNat) s_c3) rfl) _) rfl ?_
        refine WL_val gd0 ((o_move (v := .int .i64 i4) (by exact e1)) _) rfl ?_
        refine WL_val gd0 ((o_move (v := .int .i64 (v_n6 : Int)) rfl) _) rfl ?_
        refine WL_val gd0 ((o_add rfl rfl) _) rfl ?_
        obtain ⟨c40, c41, h⟩ := h
        refine WL_val gd0 ((o_sliceL Try.underlying45 Try.sizeOf66 rfl rfl c40 c41) _) rfl ?_
        obtain ⟨x42, w43, r44, h⟩ := h
        refine WL_val gd0 (o_callExt (argCons rfl (argCons rfl argNil)) r44) rfl ?_
        refine WL_val gd0 ((o_not rfl) _) rfl ?_
        refine WL_nil ?_
        refine nrm ?_
        refine WC_cond (t := (!x42)) rfl (fun hb45 => ?_) (fun hb45 => ?_)
        · rw [if_pos hb45] at h
          refine WC_seq ?_
          refine WC_draws [8] (.look 0 (.look 1 (.look 2 (.look 3 (.look 4 (.look 5 (.look 6 (.look 7 (.act 8 .nil))))))))) Try.mixed (by kernel_rfl) ?_
          refine WQ_val rfl gd0 (o_move (v := .slice s_a1 ((IntKind.i64.wrap ((s_n2 : Int) + (v_n6 : Int))).toNat) s_c3) rfl) rfl ?_
          refine WQ_val rfl gd0 (o_move (v := .int .i64 i4) (by exact e1)) rfl ?_
          refine WQ_val rfl gd0 (o_move (v := .int .i64 (v_n6 : Int)) rfl) rfl ?_
          refine WQ_val rfl gd0 (o_add rfl rfl) rfl ?_
          obtain ⟨c46, c47, h⟩ := h
          refine WQ_val rfl gd0 (o_sliceL Try.underlying45 Try.sizeOf66 rfl rfl c46 c47) rfl ?_
          refine WQ_val rfl gd0 (o_move (v := .slice s_a1 ((IntKind.i64.wrap ((s_n2 : Int) + (v_n6 : Int))).toNat) s_c3) rfl) rfl ?_
          refine WQ_val rfl gd0 (o_move (v := .int .i64 i4) (by exact e1)) rfl ?_
          obtain ⟨c48, c49, h⟩ := h
          refine WQ_val rfl gd0 (o_sliceL Try.underlying45 Try.sizeOf66 rfl rfl c48 c49) rfl ?_
          obtain ⟨n50, w51, r52, h⟩ := h
          refine WQ_act rfl gd0 (o_copy rfl rfl r52) rfl (by exact trivial) ?_
          refine WQ_nil ?_
          refine nrm ?_
          refine WC_seq ?_
          refine WC_region ?_
          refine WL_val gd0 ((o_move (v := .slice s_a1 ((IntKind.i64.wrap ((s_n2 : Int) + (v_n6 : Int))).toNat) s_c3) rfl) _) rfl ?_
          refine WL_val gd0 ((o_move (v := .int .i64 i4) (by exact e1)) _) rfl ?_
          obtain ⟨c53, c54, h⟩ := h
          refine WL_val gd0 ((o_sliceL Try.underlying45 Try.sizeOf66 rfl rfl c53 c54) _) rfl ?_
          refine WL_val gd0 ((o_move (v := .slice v_a5 v_n6 v_c7) (by exact e2)) _) rfl ?_
          obtain ⟨n55, w56, r57, h⟩ := h
          refine WL_val gd0 (o_copy rfl rfl r57) rfl ?_
          refine WL_nil ?_
          refine nrm ?_
          refine WC_seq ?_
          refine WC_region ?_
          refine WL_val gd0 ((o_move (v := .slice s_a1 ((IntKind.i64.wrap ((s_n2 : Int) + (v_n6 : Int))).toNat) s_c3) rfl) _) rfl ?_
          refine WL_val gd0 ((o_assign (v := .slice s_a1 ((IntKind.i64.wrap ((s_n2 : Int) + (v_n6 : Int))).toNat) s_c3) rfl) _) rfl ?_
          refine WL_nil ?_
          refine nrm ?_
          refine WC_ret ?_
          refine rtT ?_
          refine rtE ?_
          exact gv1 rfl rfl h
        · rw [if_neg (neT hb45)] at h
          refine WC_skip ?_
          refine nrm ?_
          refine WC_seq ?_
          refine WC_region ?_
          refine WL_val gd0 ((o_move (v := .slice s_a1 ((IntKind.i64.wrap ((s_n2 : Int) + (v_n6 : Int))).toNat) s_c3) rfl) _) rfl ?_
          refine WL_val gd0 ((o_move (v := .int .i64 (s_n2 : Int)) rfl) _) rfl ?_
          obtain ⟨c58, c59, h⟩ := h
          refine WL_val gd0 ((o_sliceL Try.underlying45 Try.sizeOf66 rfl rfl c58 c59) _) rfl ?_
          refine WL_val gd0 ((o_move (v := .slice v_a5 v_n6 v_c7) (by exact e2)) _) rfl ?_
          obtain ⟨n60, w61, r62, h⟩ := h
          refine WL_val gd0 (o_copy rfl rfl r62) rfl ?_
          refine WL_nil ?_
          refine nrm ?_
          refine WC_seq ?_
          refine WC_region ?_
          refine WL_val gd0 ((o_move (v := .slice s_a1 ((IntKind.i64.wrap ((s_n2 : Int) + (v_n6 : Int))).toNat) s_c3) rfl) _) rfl ?_
          refine WL_val gd0 ((o_move (v := .int .i64 i4) (by exact e1)) _) rfl ?_
          obtain ⟨c63, c64, h⟩ := h
          refine WL_val gd0 ((o_sliceL Try.underlying45 Try.sizeOf66 rfl rfl c63 c64) _) rfl ?_
          refine WL_val gd0 ((o_move (v := .int .i64 (v_n6 : Int)) rfl) _) rfl ?_
          refine WL_call gd0 (o_call Try.call40 (argCons rfl (argCons rfl argNil)) _) rfl (h.mono ?_)
          rintro _ w65 ⟨rfl, h⟩
          refine WL_nil ?_
          refine nrm ?_
          refine WC_seq ?_
          refine WC_region ?_
          refine WL_val gd0 ((o_move (v := .slice s_a1 ((IntKind.i64.wrap ((s_n2 : Int) + (v_n6 : Int))).toNat) s_c3) rfl) _) rfl ?_
          refine WL_val gd0 ((o_assign (v := .slice s_a1 ((IntKind.i64.wrap ((s_n2 : Int) + (v_n6 : Int))).toNat) s_c3) rfl) _) rfl ?_
          refine WL_nil ?_
          refine nrm ?_
          refine WC_ret ?_
          refine rtE ?_
          exact gv1 rfl rfl h

/-- slices.Delete   spacecraft hk.entry,spacecraft hk.entry  -/
def F25 (s_a1 : Option Addr) (s_n2 : Nat) (s_c3 : Nat) (i4 : Int) (j5 : Int) (w6 : World) (k : Value → World → Prop) : Prop :=
  (0 : Int) ≤ i4 ∧ i4 ≤ (j5 : Int) ∧ j5 ≤ ((s_n2 : Int) : Int) ∧ (s_n2 : Int) ≤ (s_c3 : Int) ∧ if i4 = j5 then
  k (.slice s_a1 s_n2 s_c3) w6
else
  (0 : Int) ≤ i4 ∧ i4 ≤ (s_c3 : Int) ∧ (0 : Int) ≤ j5 ∧ j5 ≤ (s_n2 : Int) ∧ ∃ (b_a16 : Option Addr) (b_n17 b_c18 : Nat) (w19 : World), (Builtin.append_ #[45, 45] 45 #[.slice s_a1 i4.toNat s_c3, .slice (cutA s_a1 s_c3 j5.toNat 5) (s_n2 - j5.toNat) (s_c3 - j5.toNat)]).run Try.prog w6.drew = .ok (.slice b_a16 b_n17 b_c18) w19 ∧ (0 : Int) ≤ (b_n17 : Int) ∧ (b_n17 : Int) ≤ ((s_n2 : Int) : Int) ∧ (s_n2 : Int) ≤ (b_c18 : Int) ∧ ∃ (w24 : World), (Builtin.clear_ #[45] 0 #[.slice (cutA b_a16 b_c18 ((b_n17 : Int).toNat) 5) ((s_n2 : Int).toNat - (b_n17 : Int).toNat) (b_c18 - (b_n17 : Int).toNat)]).run Try.prog w19 = .ok (.tuple #[]) w24 ∧ k (.slice b_a16 b_n17 b_c18) w24
set_option maxRecDepth 100000 in
set_option maxHeartbeats 2000000 in
theorem w25 (s_a1 : Option Addr) (s_n2 : Nat) (s_c3 : Nat) (i4 : Int) (j5 : Int) (w6 : World) (k : Value → World → Prop) (h : F25 s_a1 s_n2 s_c3 i4 j5 w6 k) : Does Try.prog 25 #[.slice s_a1 s_n2 s_c3, .int .i64 i4, .int .i64 j5] w6 k := by
  refine enter 33 Try.func25 rfl rfl rfl ?_
  intro ρ hρ
  have e0 := hρ 0 _ rfl
  have e1 := hρ 1 _ rfl
  have e2 := hρ 2 _ rfl
  unfold F25 at h
  refine WC_seq ?_
  refine WC_region ?_
  refine WL_val gd0 ((o_assign (v := .slice none 0 0) rfl) _) rfl ?_
  refine WL_nil ?_
  refine nrm ?_
  refine WC_seq ?_
  refine WC_region ?_
  refine WL_val gd0 ((o_move (v := .slice s_a1 s_n2 s_c3) (by exact e0)) _) rfl ?_
  refine WL_val gd0 ((o_move (v := .int .i64 i4) (by exact e1)) _) rfl ?_
  refine WL_val gd0 ((o_move (v := .int .i64 j5) (by exact e2)) _) rfl ?_
  refine WL_val gd0 ((o_move (v := .slice s_a1 s_n2 s_c3) (by exact e0)) _) rfl ?_
  refine WL_val gd0 ((o_len Try.underlying45 rfl) _) rfl ?_
  obtain ⟨c7, c8, c9, c10, h⟩ := h
  refine WL_val gd0 ((o_sliceLHM Try.underlying45 Try.sizeOf66 rfl rfl rfl rfl c7 c8 c9 c10) _) rfl ?_
  refine WL_nil ?_
  refine nrm ?_
  refine WC_seq ?_
  refine WC_seq ?_
  refine WC_region ?_
  refine WL_val gd0 ((o_move (v := .int .i64 i4) (by exact e1)) _) rfl ?_
  refine WL_val gd0 ((o_move (v := .int .i64 j5) (by exact e2)) _) rfl ?_
  refine WL_val gd0 ((o_eql rfl rfl) _) rfl ?_
  refine WL_nil ?_
  refine nrm ?_
  refine WC_cond (t := (decide (i4 = j5))) rfl (fun hb11 => ?_) (fun hb11 => ?_)
  · rw [if_pos (of_decide_eq_true hb11)] at h
    refine WC_seq ?_
    refine WC_region ?_
    refine WL_val gd0 ((o_move (v := .slice s_a1 s_n2 s_c3) (by exact e0)) _) rfl ?_
    refine WL_val gd0 ((o_assign (v := .slice s_a1 s_n2 s_c3) rfl) _) rfl ?_
    refine WL_nil ?_
    refine nrm ?_
    refine WC_ret ?_
    refine rtT ?_
    refine rtE ?_
    exact gv1 rfl rfl h
  · rw [if_neg (of_decide_eq_false hb11)] at h
    refine WC_skip ?_
    refine nrm ?_
    refine WC_seq ?_
    refine WC_region ?_
    refine WL_val gd0 ((o_move (v := .slice s_a1 s_n2 s_c3) (by exact e0)) _) rfl ?_
    refine WL_val gd0 ((o_len Try.underlying45 rfl) _) rfl ?_
    refine WL_val gd0 ((o_assign (v := .int .i64 (s_n2 : Int)) rfl) _) rfl ?_
    refine WL_nil ?_
    refine nrm ?_
    refine WC_seq ?_
    refine WC_draws [6] (.look 0 (.look 1 (.look 2 (.look 3 (.look 4 (.look 5 (.act 6 (.look 7 .nil)))))))) Try.mixed (by kernel_rfl) ?_
    refine WQ_val rfl gd0 (o_move (v := .slice s_a1 s_n2 s_c3) (by exact e0)) rfl ?_
    refine WQ_val rfl gd0 (o_move (v := .int .i64 i4) (by exact e1)) rfl ?_
    obtain ⟨c12, c13, h⟩ := h
    refine WQ_val rfl gd0 (o_sliceH Try.underlying45 Try.sizeOf66 rfl rfl c12 c13) rfl ?_
    refine WQ_val rfl gd0 (o_move (v := .slice s_a1 s_n2 s_c3) (by exact e0)) rfl ?_
    refine WQ_val rfl gd0 (o_move (v := .int .i64 j5) (by exact e2)) rfl ?_
    obtain ⟨c14, c15, h⟩ := h
    refine WQ_val rfl gd0 (o_sliceL Try.underlying45 Try.sizeOf66 rfl rfl c14 c15) rfl ?_
    obtain ⟨b_a16, b_n17, b_c18, w19, r20, h⟩ := h
    refine WQ_act rfl gd0 (o_append rfl rfl r20) rfl (by exact trivial) ?_
    refine WQ_val rfl gd0 (o_assign (v := .slice b_a16 b_n17 b_c18) rfl) rfl ?_
    refine WQ_nil ?_
    refine nrm ?_
    refine WC_seq ?_
    refine WC_region ?_
    refine WL_val gd0 ((o_move (v := .slice b_a16 b_n17 b_c18) rfl) _) rfl ?_
    refine WL_val gd0 ((o_move (v := .slice b_a16 b_n17 b_c18) rfl) _) rfl ?_
    refine WL_val gd0 ((o_len Try.underlying45 rfl) _) rfl ?_
    refine WL_val gd0 ((o_move (v := .int .i64 (s_n2 : Int)) rfl) _) rfl ?_
    obtain ⟨c21, c22, c23, h⟩ := h
    refine WL_val gd0 ((o_sliceLH Try.underlying45 Try.sizeOf66 rfl rfl rfl c21 c22 c23) _) rfl ?_
    obtain ⟨w24, r25, h⟩ := h
    refine WL_valNone gd0 (o_clear rfl r25) ?_
    refine WL_nil ?_
    refine nrm ?_
    refine WC_seq ?_
    refine WC_region ?_
    refine WL_val gd0 ((o_move (v := .slice b_a16 b_n17 b_c18) rfl) _) rfl ?_
    refine WL_val gd0 ((o_assign (v := .slice b_a16 b_n17 b_c18) rfl) _) rfl ?_
    refine WL_nil ?_
    refine nrm ?_
    refine WC_ret ?_
    refine rtE ?_
    exact gv1 rfl rfl h

def F26_j1 (s1 : Option Addr) (now2 : Int) (t7 : Bool) (w8 : World) (k : Value → World → Prop) : Prop :=
  if t7 = true then
  ∃ (p10 : Addr), s1 = some p10 ∧ Put w8 (p10.add 1) (.int .i64 now2) (fun w12 => k (.tuple #[]) w12)
else
  k (.tuple #[]) w8
/-- (*spacecraft hk.Service).pass -/
def F26 (s1 : Option Addr) (now2 : Int) (w3 : World) (k : Value → World → Prop) : Prop :=
  ∃ (p14 : Addr), s1 = some p14 ∧ ∃ (x16 : Int), w3.cell? (p14.add 1) = some (.int .i64 x16) ∧ if x16 < now2 then
  F26_j1 s1 now2 (decide (now2 ≤ 1099511627776)) w3 k
else
  F26_j1 s1 now2 false w3 k
set_option maxRecDepth 100000 in
set_option maxHeartbeats 2000000 in
theorem w26 (s1 : Option Addr) (now2 : Int) (w3 : World) (k : Value → World → Prop) (h : F26 s1 now2 w3 k) : Does Try.prog 26 #[.pointer s1, .int .i64 now2] w3 k := by
  refine enter 18 Try.func26 rfl rfl rfl ?_
  intro ρ hρ
  have e0 := hρ 0 _ rfl
  have e1 := hρ 1 _ rfl
  unfold F26 at h
  refine WC_cut (fun ρ w' => ∃ (t7 : Bool), ρ 13 = .bool t7 ∧ ρ 0 = .pointer s1 ∧ ρ 1 = .int .i64 now2 ∧ F26_j1 s1 now2 t7 w' k) ?_ ?_
  · refine WC_region ?_
    refine WL_val gd0 ((o_move (v := .int .i64 now2) (by exact e1)) _) rfl ?_
    refine WL_val gd0 ((o_move (v := .pointer s1) (by exact e0)) _) rfl ?_
    obtain ⟨p14, q15, h⟩ := h
    refine WL_val gd0 ((o_nilCheck (by exact (congrArg Value.pointer q15))) _) rfl ?_
    refine WL_val gd0 ((o_fieldAddr 1 Try.underlying47 rfl Try.sizeOf3 rfl rfl rfl) _) rfl ?_
    obtain ⟨x16, hc17, h⟩ := h
    refine WL_val gd0 (o_load Try.isAgg3 rfl hc17) rfl ?_
    refine WL_val gd0 ((o_gtr rfl rfl) _) rfl ?_
    refine WL_val gd0 ((o_move (v := .bool (decide (x16 < now2))) rfl) _) rfl ?_
    refine bsplit (decide (x16 < now2)) (fun hb18 => ?_) (fun hb18 => ?_)
    · rw [if_pos (of_decide_eq_true hb18)] at h
      refine WL_val (gdY (b := (decide (x16 < now2))) 10 rfl rfl hb18) ((o_move (v := .int .i64 now2) (by exact e1)) _) rfl ?_
      refine WL_val (gdY (b := (decide (x16 < now2))) 10 rfl rfl hb18) ((o_leq rfl rfl) _) rfl ?_
      refine WL_val gd0 ((o_pickT (v := .bool (decide (now2 ≤ 1099511627776))) rfl hb18 rfl) _) rfl ?_
      refine WL_nil ?_
      refine nrm ?_
      exact ⟨_, rfl, e0, e1, h⟩
    · rw [if_neg (of_decide_eq_false hb18)] at h
      refine WL_skip (gdN (b := (decide (x16 < now2))) 10 rfl rfl hb18) rfl ?_
      refine WL_skip (gdN (b := (decide (x16 < now2))) 10 rfl rfl hb18) rfl ?_
      refine WL_val gd0 ((o_pickF (v := .bool false) rfl hb18 rfl) _) rfl ?_
      refine WL_nil ?_
      refine nrm ?_
      exact ⟨_, rfl, e0, e1, h⟩
  · rintro ρ w8 ⟨t7, e13_6, e0_4, e1_5, h⟩
    unfold F26_j1 at h
    refine WC_cond (t := t7) (by exact e13_6) (fun hb9 => ?_) (fun hb9 => ?_)
    · rw [if_pos hb9] at h
      refine WC_region ?_
      refine WL_val gd0 ((o_move (v := .pointer s1) (by exact e0_4)) _) rfl ?_
      refine WL_val gd0 ((o_move (v := .int .i64 now2) (by exact e1_5)) _) rfl ?_
      obtain ⟨p10, q11, h⟩ := h
      refine WL_val gd0 ((o_nilCheck (by exact (congrArg Value.pointer q11))) _) rfl ?_
      refine WL_val gd0 ((o_fieldAddr 1 Try.underlying47 rfl Try.sizeOf3 rfl rfl rfl) _) rfl ?_
      obtain ⟨c13, h⟩ := h
      refine WL_act gd0 (o_store (v := .int .i64 now2) Try.sizeOf3 rfl rfl rfl c13) ?_
      generalize hw12 : World.setCell w8 (p10.add 1) (.int .i64 now2) = w12 at h ⊢
      try dsimp only at h
      refine WL_nil ?_
      refine ndE ?_
      exact gv0 rfl h
    · rw [if_neg (neT hb9)] at h
      refine WC_skip ?_
      refine ndE ?_
      exact gv0 rfl h

def F27_b1 (r_n8 : Nat) (r_a7 : Option Addr) (w13 : Option Addr) (t18 : Int) (w19 : World) (nx19 : Int → World → Prop) (k : Value → World → Prop) : Prop :=
  if t18 < (r_n8 : Int) then
  ∃ (p24 : Addr), r_a7 = some p24 ∧ (0 : Int) ≤ t18 ∧ t18 < (r_n8 : Int) ∧ ∃ (x26 x27 : Int) (x28 : Bool) (x29 : Int), Cells w19 (p24.add (t18.toNat * 4)) 0 [.int .i64 x26, .int .i64 x27, .bool x28, .int .i64 x29] ∧ New w19 82 [.int .i64 0, .int .i64 0, .bool false, .int .i64 0] (fun p31 w32 => PutAll w32 p31 [.int .i64 x26, .int .i64 x27, .bool x28, .int .i64 x29] (fun w33 => ∃ (x35 : Int), w33.cell? (p31.add 3) = some (.int .i64 x35) ∧ ∃ (x37 : Int), w33.cell? (p31.add 1) = some (.int .i64 x37) ∧ Does Try.prog 43 #[.pointer w13, .int .u64 (IntKind.u64.wrap x35), .int .i64 x37] w33 (fun v w39 => ∃ (x40 : Option Addr), v = .pointer x40 ∧ nx19 (IntKind.i64.wrap (t18 + 1)) w39)))
else
  Does Try.prog 44 #[.pointer w13] w19 (fun v w41 => ∃ (t_a42 : Option Addr) (t_n43 t_c44 : Nat), v = .slice t_a42 t_n43 t_c44 ∧ k (.tuple #[.slice t_a42 t_n43 t_c44, .int .i64 0]) w41)
/-- (*spacecraft params.Pool).Pack -/
def F27 (p1 : Option Addr) (ids_a2 : Option Addr) (ids_n3 : Nat) (ids_c4 : Nat) (w5 : World) (k : Value → World → Prop) : Prop :=
  Does Try.prog 41 #[.pointer p1, .slice ids_a2 ids_n3 ids_c4] w5 (fun v w6 => ∃ (r_a7 : Option Addr) (r_n8 r_c9 : Nat) (r10 : Int), v = .tuple #[.slice r_a7 r_n8 r_c9, .int .i64 r10] ∧ if r10 ≠ 0 then
  k (.tuple #[.slice none 0 0, .int .i64 r10]) w6
else
  Does Try.prog 42 #[] w6 (fun v w12 => ∃ (w13 : Option Addr), v = .pointer w13 ∧ LoopP (fun (s : Int) w' nx' => F27_b1 r_n8 r_a7 w13 s w' (fun x0 w => nx' x0 w) k) 0 w12))
set_option maxRecDepth 100000 in
set_option maxHeartbeats 2000000 in
theorem w27 (p1 : Option Addr) (ids_a2 : Option Addr) (ids_n3 : Nat) (ids_c4 : Nat) (w5 : World) (k : Value → World → Prop) (h : F27 p1 ids_a2 ids_n3 ids_c4 w5 k) : Does Try.prog 27 #[.pointer p1, .slice ids_a2 ids_n3 ids_c4] w5 k := by
  refine enter 37 Try.func27 rfl rfl rfl ?_
  intro ρ hρ
  have e0 := hρ 0 _ rfl
  have e1 := hρ 1 _ rfl
  unfold F27 at h
  refine WC_seq ?_
  refine WC_region ?_
  refine WL_val gd0 ((o_assign (v := .slice none 0 0) rfl) _) rfl ?_
  refine WL_val gd0 ((o_assign (v := .int .i64 0) rfl) _) rfl ?_
  refine WL_nil ?_
  refine nrm ?_
  refine WC_seq ?_
  refine WC_region ?_
  refine WL_val gd0 ((o_move (v := .pointer p1) (by exact e0)) _) rfl ?_
  refine WL_val gd0 ((o_move (v := .slice ids_a2 ids_n3 ids_c4) (by exact e1)) _) rfl ?_
  refine WL_call gd0 (o_call Try.call41 (argCons rfl (argCons rfl argNil)) _) rfl (h.mono ?_)
  rintro _ w6 ⟨r_a7, r_n8, r_c9, r10, rfl, h⟩
  refine WL_val gd0 ((o_move (v := .tuple #[.slice r_a7 r_n8 r_c9, .int .i64 r10]) rfl) _) rfl ?_
  refine WL_val gd0 ((o_extract (vs := [.slice r_a7 r_n8 r_c9, .int .i64 r10]) (r := .slice r_a7 r_n8 r_c9) rfl rfl) _) rfl ?_
  refine WL_val gd0 ((o_extract (vs := [.slice r_a7 r_n8 r_c9, .int .i64 r10]) (r := .int .i64 r10) rfl rfl) _) rfl ?_
  refine WL_val gd0 ((o_assign (v := .slice r_a7 r_n8 r_c9) rfl) _) rfl ?_
  refine WL_val gd0 ((o_assign (v := .int .i64 r10) rfl) _) rfl ?_
  refine WL_nil ?_
  refine nrm ?_
  refine WC_seq ?_
  refine WC_seq ?_
  refine WC_region ?_
  refine WL_val gd0 ((o_move (v := .int .i64 r10) rfl) _) rfl ?_
  refine WL_val gd0 ((o_neq rfl rfl) _) rfl ?_
  refine WL_nil ?_
  refine nrm ?_
  refine WC_cond (t := (decide (r10 ≠ 0))) rfl (fun hb11 => ?_) (fun hb11 => ?_)
  · rw [if_pos (of_decide_eq_true hb11)] at h
    refine WC_seq ?_
    refine WC_region ?_
    refine WL_val gd0 ((o_move (v := .int .i64 r10) rfl) _) rfl ?_
    refine WL_val gd0 ((o_assign (v := .slice none 0 0) rfl) _) rfl ?_
    refine WL_val gd0 ((o_assign (v := .int .i64 r10) rfl) _) rfl ?_
    refine WL_nil ?_
    refine nrm ?_
    refine WC_ret ?_
    refine rtT ?_
    refine rtE ?_
    exact gv2 rfl rfl rfl h
  · rw [if_neg (of_decide_eq_false hb11)] at h
    refine WC_skip ?_
    refine nrm ?_
    refine WC_seq ?_
    refine WC_region ?_
    refine WL_call gd0 (o_call Try.call42 argNil _) rfl (h.mono ?_)
    rintro _ w12 ⟨w13, rfl, h⟩
    refine WL_val gd0 ((o_assign (v := .pointer w13) rfl) _) rfl ?_
    refine WL_nil ?_
    refine nrm ?_
    refine WC_seq ?_
    refine WC_seq ?_
    refine WC_region ?_
    refine WL_val gd0 ((o_move (v := .slice r_a7 r_n8 r_c9) rfl) _) rfl ?_
    refine WL_val gd0 ((o_len Try.underlying56 rfl) _) rfl ?_
    refine WL_val gd0 ((o_move (v := .int .i64 0) rfl) _) rfl ?_
    refine WL_nil ?_
    refine nrm ?_
    refine WC_block ?_
    obtain ⟨J19, ⟨n19, h0⟩, hr19⟩ := h
    refine WC_loop (fun n ρ w' => ∃ (t18 : Int), ρ 23 = .int .i64 t18 ∧ ρ 8 = .pointer w13 ∧ ρ 21 = .slice r_a7 r_n8 r_c9 ∧ ρ 22 = .int .i64 (r_n8 : Int) ∧ J19 n t18 w') ⟨n19, _, rfl, rfl, rfl, rfl, h0⟩ ?_
    rintro n19 ρ w19 ⟨t18, e23_17, e8_14, e21_15, e22_16, h⟩
    have h : F27_b1 r_n8 r_a7 w13 t18 w19 (fun x0 w => ∃ m, m < n19 ∧ J19 m x0 w) k := hr19 n19 t18 w19 h
    unfold F27_b1 at h
    refine WC_seq ?_
    refine WC_region ?_
    refine WL_val gd0 ((o_lss (by exact e23_17) (by exact e22_16)) _) rfl ?_
    refine WL_nil ?_
    refine nrm ?_
    refine WC_seq ?_
    refine WC_cond (t := (decide (t18 < (r_n8 : Int)))) rfl (fun hb21 => ?_) (fun hb21 => ?_)
    · rw [if_pos (of_decide_eq_true hb21)] at h
      refine WC_skip ?_
      refine nrm ?_
      refine WC_seq ?_
      refine WC_block ?_
      refine WC_seq ?_
      refine WC_region ?_
      obtain ⟨p24, q25, h⟩ := h
      obtain ⟨l22, u23, h⟩ := h
      refine WL_val gd0 ((o_indexAddr Try.underlying56 Try.sizeOf82 (by exact (Eq.trans e21_15 (congrArg (fun z => Value.slice z r_n8 r_c9) q25))) (by exact e23_17) l22 u23) _) rfl ?_
      obtain ⟨x26, x27, x28, x29, hc30, h⟩ := h
      refine WL_val gd0 (o_loadAgg (vs := [.int .i64 x26, .int .i64 x27, .bool x28, .int .i64 x29]) Try.isAgg82 Try.sizeOf82 rfl hc30) rfl ?_
      have h := New.out h
      refine WL_val gd0 (o_alloc (z := .agg #[.int .i64 0, .int .i64 0, .bool false, .int .i64 0]) (cs := [.int .i64 0, .int .i64 0, .bool false, .int .i64 0]) Try.zeroValue82 rfl) rfl ?_
      generalize hp31 : fresh w19 = p31 at h ⊢
      generalize hw32 : push w19 82 [.int .i64 0, .int .i64 0, .bool false, .int .i64 0] = w32 at h ⊢
      try dsimp only at h
      obtain ⟨c34, h⟩ := h
      refine WL_act gd0 (o_storeAgg (vs := [.int .i64 x26, .int .i64 x27, .bool x28, .int .i64 x29]) Try.sizeOf82 rfl rfl rfl c34) ?_
      generalize hw33 : setAll w32 p31 0 [.int .i64 x26, .int .i64 x27, .bool x28, .int .i64 x29] = w33 at h ⊢
      try dsimp only at h
      refine WL_nil ?_
      refine nrm ?_
      refine WC_region ?_
      refine WL_val gd0 ((o_move (v := .pointer w13) (by exact e8_14)) _) rfl ?_
      refine WL_val gd0 ((o_fieldAddr 3 Try.underlying82 rfl Try.sizeOf3 rfl rfl rfl) _) rfl ?_
      obtain ⟨x35, hc36, h⟩ := h
      refine WL_val gd0 (o_load Try.isAgg3 rfl hc36) rfl ?_
      refine WL_val gd0 ((o_conv Try.underlying3 Try.underlying94 rfl) _) rfl ?_
      refine WL_val gd0 ((o_fieldAddr 1 Try.underlying82 rfl Try.sizeOf3 rfl rfl rfl) _) rfl ?_
      obtain ⟨x37, hc38, h⟩ := h
      refine WL_val gd0 (o_load Try.isAgg3 rfl hc38) rfl ?_
      refine WL_call gd0 (o_call Try.call43 (argCons rfl (argCons rfl (argCons rfl argNil))) _) rfl (h.mono ?_)
      rintro _ w39 ⟨x40, rfl, h⟩
      refine WL_nil ?_
      refine nrmB ?_
      refine nrm ?_
      refine WC_region ?_
      refine WL_val gd0 ((o_add (by exact e23_17) rfl) _) rfl ?_
      refine WL_val gd0 ((o_move (v := .int .i64 (IntKind.i64.wrap (t18 + 1))) rfl) _) rfl ?_
      refine WL_nil ?_
      refine nrm ?_
      obtain ⟨m20, hm20, h⟩ := h
      exact ⟨m20, hm20, _, rfl, e8_14, e21_15, e22_16, h⟩
    · rw [if_neg (of_decide_eq_false hb21)] at h
      refine WC_exit ?_
      refine exT ?_
      refine exT ?_
      refine exB ?_
      refine nrm ?_
      refine WC_seq ?_
      refine WC_region ?_
      refine WL_val gd0 ((o_move (v := .pointer w13) (by exact e8_14)) _) rfl ?_
      refine WL_call gd0 (o_call Try.call44 (argCons rfl argNil) _) rfl (h.mono ?_)
      rintro _ w41 ⟨t_a42, t_n43, t_c44, rfl, h⟩
      refine WL_val gd0 ((o_assign (v := .slice t_a42 t_n43 t_c44) rfl) _) rfl ?_
      refine WL_val gd0 ((o_assign (v := .int .i64 0) rfl) _) rfl ?_
      refine WL_nil ?_
      refine nrm ?_
      refine WC_ret ?_
      refine rtE ?_
      exact gv2 rfl rfl rfl h

/-- slices.Clone   spacecraft hk.entry,spacecraft hk.entry  -/
def F28 (s_a1 : Option Addr) (s_n2 : Nat) (s_c3 : Nat) (w4 : World) (k : Value → World → Prop) : Prop :=
  if (s_a1).isNone = true then
  k (.slice none 0 0) w4
else
  New w4 66 [] (fun p6 w7 => ∃ (b_a8 : Option Addr) (b_n9 b_c10 : Nat) (w11 : World), (Builtin.append_ #[45, 45] 45 #[.slice (some p6) 0 0, .slice s_a1 s_n2 s_c3]).run Try.prog w7 = .ok (.slice b_a8 b_n9 b_c10) w11 ∧ k (.slice b_a8 b_n9 b_c10) w11)
set_option maxRecDepth 100000 in
set_option maxHeartbeats 2000000 in
theorem w28 (s_a1 : Option Addr) (s_n2 : Nat) (s_c3 : Nat) (w4 : World) (k : Value → World → Prop) (h : F28 s_a1 s_n2 s_c3 w4 k) : Does Try.prog 28 #[.slice s_a1 s_n2 s_c3] w4 k := by
  refine enter 8 Try.func28 rfl rfl rfl ?_
  intro ρ hρ
  have e0 := hρ 0 _ rfl
  unfold F28 at h
  refine WC_seq ?_
  refine WC_region ?_
  refine WL_val gd0 ((o_assign (v := .slice none 0 0) rfl) _) rfl ?_
  refine WL_nil ?_
  refine nrm ?_
  refine WC_seq ?_
  refine WC_seq ?_
  refine WC_region ?_
  refine WL_val gd0 ((o_move (v := .slice s_a1 s_n2 s_c3) (by exact e0)) _) rfl ?_
  refine WL_val gd0 ((o_eqlSliceNil Try.underlying45 rfl rfl) _) rfl ?_
  refine WL_nil ?_
  refine nrm ?_
  refine WC_cond (t := ((s_a1).isNone)) rfl (fun hb5 => ?_) (fun hb5 => ?_)
  · rw [if_pos hb5] at h
    refine WC_seq ?_
    refine WC_region ?_
    refine WL_val gd0 ((o_assign (v := .slice none 0 0) rfl) _) rfl ?_
    refine WL_nil ?_
    refine nrm ?_
    refine WC_ret ?_
    refine rtT ?_
    refine rtE ?_
    exact gv1 rfl rfl h
  · rw [if_neg (neT hb5)] at h
    refine WC_skip ?_
    refine nrm ?_
    refine WC_seq ?_
    refine WC_region ?_
    have h := New.out h
    refine WL_val gd0 (o_buildSlice (e := 66) (ps := []) (cs := []) partNil (fun w => by kernel_rfl)) rfl ?_
    generalize hp6 : fresh w4 = p6 at h ⊢
    generalize hw7 : push w4 66 [] = w7 at h ⊢
    try dsimp only at h
    refine WL_val gd0 ((o_move (v := .slice s_a1 s_n2 s_c3) (by exact e0)) _) rfl ?_
    obtain ⟨b_a8, b_n9, b_c10, w11, r12, h⟩ := h
    refine WL_val gd0 (o_append rfl rfl r12) rfl ?_
    refine WL_val gd0 ((o_assign (v := .slice b_a8 b_n9 b_c10) rfl) _) rfl ?_
    refine WL_nil ?_
    refine nrm ?_
    refine WC_ret ?_
    refine rtE ?_
    exact gv1 rfl rfl h

/-- (*spacecraft spacecraftref34.Service).Define -/
def F29 (s1 : Option Addr) (id2 : Int) (interval3 : Int) (l_a4 : Option Addr) (l_n5 : Nat) (l_c6 : Nat) (w7 : World) (k : Value → World → Prop) : Prop :=
  New w7 3 [.int .i64 id2] (fun p8 w9 => Does Try.prog 45 #[.slice (some p8) 1 1] w9 (fun v w10 => ∃ (x11 : Bool), v = .bool x11 ∧ if (!x11) = true then
  k (.int .i64 1) w10
else
  if interval3 < 1 then
    k (.int .i64 1) w10
  else
    if 1048576 < interval3 then
      k (.int .i64 1) w10
    else
      if (l_n5 : Int) < 1 then
        k (.int .i64 1) w10
      else
        if 256 < (l_n5 : Int) then
          k (.int .i64 1) w10
        else
          Does Try.prog 45 #[.slice l_a4 l_n5 l_c6] w10 (fun v w17 => ∃ (x18 : Bool), v = .bool x18 ∧ if (!x18) = true then
            k (.int .i64 1) w17
          else
            Does Try.prog 46 #[.pointer s1, .int .i64 id2] w17 (fun v w20 => ∃ (r21 : Int) (r22 : Bool), v = .tuple #[.int .i64 r21, .bool r22] ∧ if r22 = true then
              k (.int .i64 9) w20
            else
              ∃ (p24 : Addr), s1 = some p24 ∧ ∃ (x_a26 : Option Addr) (x_n27 x_c28 : Nat), w20.cell? p24 = some (.slice x_a26 x_n27 x_c28) ∧ if 256 ≤ (x_n27 : Int) then
                k (.int .i64 7) w20
              else
                ∃ (x_a31 : Option Addr) (x_n32 x_c33 : Nat), w20.cell? p24 = some (.slice x_a31 x_n32 x_c33) ∧ (0 : Int) ≤ r21 ∧ r21 ≤ (x_c33 : Int) ∧ ∃ (b_a37 : Option Addr) (b_n38 b_c39 : Nat) (w40 : World), (Builtin.append_ #[28, 28] 28 #[.slice none 0 0, .slice x_a31 r21.toNat x_c33]).run Try.prog w20 = .ok (.slice b_a37 b_n38 b_c39) w40 ∧ ∃ (x_a42 : Option Addr) (x_n43 x_c44 : Nat), w40.cell? (p24.add 1) = some (.slice x_a42 x_n43 x_c44) ∧ (0 : Int) ≤ r21 ∧ r21 ≤ (x_c44 : Int) ∧ ∃ (b_a48 : Option Addr) (b_n49 b_c50 : Nat) (w51 : World), (Builtin.append_ #[26, 26] 26 #[.slice none 0 0, .slice x_a42 r21.toNat x_c44]).run Try.prog w40 = .ok (.slice b_a48 b_n49 b_c50) w51 ∧ New w51 3 [] (fun p53 w54 => ∃ (b_a55 : Option Addr) (b_n56 b_c57 : Nat) (w58 : World), (Builtin.append_ #[26, 26] 26 #[.slice (some p53) 0 0, .slice l_a4 l_n5 l_c6]).run Try.prog w54 = .ok (.slice b_a55 b_n56 b_c57) w58 ∧ New w58 31 [.int .i64 id2, .int .i64 interval3, .bool false, .slice b_a55 b_n56 b_c57] (fun p60 w61 => ∃ (b_a62 : Option Addr) (b_n63 b_c64 : Nat) (w65 : World), (Builtin.append_ #[28, 28] 28 #[.slice b_a37 b_n38 b_c39, .slice (some p60) 1 1]).run Try.prog w61 = .ok (.slice b_a62 b_n63 b_c64) w65 ∧ New w65 3 [.int .i64 0] (fun p67 w68 => ∃ (b_a69 : Option Addr) (b_n70 b_c71 : Nat) (w72 : World), (Builtin.append_ #[26, 26] 26 #[.slice b_a48 b_n49 b_c50, .slice (some p67) 1 1]).run Try.prog w68 = .ok (.slice b_a69 b_n70 b_c71) w72 ∧ ∃ (x_a74 : Option Addr) (x_n75 x_c76 : Nat), w72.cell? p24 = some (.slice x_a74 x_n75 x_c76) ∧ (0 : Int) ≤ r21 ∧ r21 ≤ (x_n75 : Int) ∧ ∃ (b_a80 : Option Addr) (b_n81 b_c82 : Nat) (w83 : World), (Builtin.append_ #[28, 28] 28 #[.slice b_a62 b_n63 b_c64, .slice (cutA x_a74 x_c76 r21.toNat 4) (x_n75 - r21.toNat) (x_c76 - r21.toNat)]).run Try.prog w72 = .ok (.slice b_a80 b_n81 b_c82) w83 ∧ ∃ (x_a85 : Option Addr) (x_n86 x_c87 : Nat), w83.cell? (p24.add 1) = some (.slice x_a85 x_n86 x_c87) ∧ (0 : Int) ≤ r21 ∧ r21 ≤ (x_n86 : Int) ∧ ∃ (b_a91 : Option Addr) (b_n92 b_c93 : Nat) (w94 : World), (Builtin.append_ #[26, 26] 26 #[.slice b_a69 b_n70 b_c71, .slice (cutA x_a85 x_c87 r21.toNat 1) (x_n86 - r21.toNat) (x_c87 - r21.toNat)]).run Try.prog w83 = .ok (.slice b_a91 b_n92 b_c93) w94 ∧ Put w94 p24 (.slice b_a80 b_n81 b_c82) (fun w96 => Put w96 (p24.add 1) (.slice b_a91 b_n92 b_c93) (fun w98 => k (.int .i64 0) w98)))))))))
set_option maxRecDepth 100000 in
set_option maxHeartbeats 2000000 in
theorem w29 (s1 : Option Addr) (id2 : Int) (interval3 : Int) (l_a4 : Option Addr) (l_n5 : Nat) (l_c6 : Nat) (w7 : World) (k : Value → World → Prop) (h : F29 s1 id2 interval3 l_a4 l_n5 l_c6 w7 k) : Does Try.prog 29 #[.pointer s1, .int .i64 id2, .int .i64 interval3, .slice l_a4 l_n5 l_c6] w7 k := by
  refine enter 105 Try.func29 rfl rfl rfl ?_
  intro ρ hρ
  have e0 := hρ 0 _ rfl
  have e1 := hρ 1 _ rfl
  have e2 := hρ 2 _ rfl
  have e3 := hρ 3 _ rfl
  unfold F29 at h
  refine WC_seq ?_
  refine WC_region ?_
  refine WL_val gd0 ((o_assign (v := .int .i64 0) rfl) _) rfl ?_
  refine WL_nil ?_
  refine nrm ?_
  refine WC_seq ?_
  refine WC_seq ?_
  refine WC_region ?_
  refine WL_val gd0 ((o_move (v := .int .i64 id2) (by exact e1)) _) rfl ?_
  have h := New.out h
  refine WL_val gd0 (o_buildSlice (e := 3) (ps := [(0, .int .i64 id2)]) (cs := [.int .i64 id2]) (partCons rfl partNil) (fun w => by kernel_rfl)) rfl ?_
  generalize hp8 : fresh w7 = p8 at h ⊢
  generalize hw9 : push w7 3 [.int .i64 id2] = w9 at h ⊢
  try dsimp only at h
  refine WL_call gd0 (o_call Try.call45 (argCons rfl argNil) _) rfl (h.mono ?_)
  rintro _ w10 ⟨x11, rfl, h⟩
  refine WL_val gd0 ((o_not rfl) _) rfl ?_
  refine WL_val gd0 ((o_move (v := .bool (!x11)) rfl) _) rfl ?_
  refine bsplit (!x11) (fun hb12 => ?_) (fun hb12 => ?_)
  · rw [if_pos hb12] at h
    refine WL_skip (gdN (b := (!x11)) 17 rfl rfl hb12) rfl ?_
    refine WL_skip (gdN (b := (!x11)) 17 rfl rfl hb12) rfl ?_
    refine WL_val gd0 ((o_pickT (v := .bool true) rfl hb12 rfl) _) rfl ?_
    refine WL_val gd0 ((o_move (v := .bool true) rfl) _) rfl ?_
    refine WL_skip (gdN (b := true) 21 rfl rfl rfl) rfl ?_
    refine WL_skip (gdN (b := true) 21 rfl rfl rfl) rfl ?_
    refine WL_val gd0 ((o_pickT (v := .bool true) rfl rfl rfl) _) rfl ?_
    refine WL_val gd0 ((o_move (v := .bool true) rfl) _) rfl ?_
    refine WL_skip (gdN (b := true) 25 rfl rfl rfl) rfl ?_
    refine WL_skip (gdN (b := true) 25 rfl rfl rfl) rfl ?_
    refine WL_skip (gdN (b := true) 25 rfl rfl rfl) rfl ?_
    refine WL_val gd0 ((o_pickT (v := .bool true) rfl rfl rfl) _) rfl ?_
    refine WL_val gd0 ((o_move (v := .bool true) rfl) _) rfl ?_
    refine WL_skip (gdN (b := true) 30 rfl rfl rfl) rfl ?_
    refine WL_skip (gdN (b := true) 30 rfl rfl rfl) rfl ?_
    refine WL_skip (gdN (b := true) 30 rfl rfl rfl) rfl ?_
    refine WL_val gd0 ((o_pickT (v := .bool true) rfl rfl rfl) _) rfl ?_
    refine WL_val gd0 ((o_move (v := .bool true) rfl) _) rfl ?_
    refine WL_skip (gdN (b := true) 35 rfl rfl rfl) rfl ?_
    refine WL_skip (gdN (b := true) 35 rfl rfl rfl) rfl ?_
    refine WL_skip (gdN (b := true) 35 rfl rfl rfl) rfl ?_
    refine WL_val gd0 ((o_pickT (v := .bool true) rfl rfl rfl) _) rfl ?_
    refine WL_nil ?_
    refine nrm ?_
    refine WC_cond (t := true) rfl (fun _ => ?_) (fun hx => by rw [(rfl : true = true)] at hx; cases hx)
    refine WC_seq ?_
    refine WC_region ?_
    refine WL_val gd0 ((o_assign (v := .int .i64 1) rfl) _) rfl ?_
    refine WL_nil ?_
    refine nrm ?_
    refine WC_ret ?_
    refine rtT ?_
    refine rtE ?_
    exact gv1 rfl rfl h
  · rw [if_neg (neT hb12)] at h
    refine WL_val (gdY (b := (!x11)) 17 rfl rfl hb12) ((o_move (v := .int .i64 interval3) (by exact e2)) _) rfl ?_
    refine WL_val (gdY (b := (!x11)) 17 rfl rfl hb12) ((o_lss rfl rfl) _) rfl ?_
    refine WL_val gd0 ((o_pickF (v := .bool (decide (interval3 < 1))) rfl hb12 rfl) _) rfl ?_
    refine WL_val gd0 ((o_move (v := .bool (decide (interval3 < 1))) rfl) _) rfl ?_
    refine bsplit (decide (interval3 < 1)) (fun hb13 => ?_) (fun hb13 => ?_)
    · rw [if_pos (of_decide_eq_true hb13)] at h
      refine WL_skip (gdN (b := (decide (interval3 < 1))) 21 rfl rfl hb13) rfl ?_
      refine WL_skip (gdN (b := (decide (interval3 < 1))) 21 rfl rfl hb13) rfl ?_
      refine WL_val gd0 ((o_pickT (v := .bool true) rfl hb13 rfl) _) rfl ?_
      refine WL_val gd0 ((o_move (v := .bool true) rfl) _) rfl ?_
      refine WL_skip (gdN (b := true) 25 rfl rfl rfl) rfl ?_
      refine WL_skip (gdN (b := true) 25 rfl rfl rfl) rfl ?_
      refine WL_skip (gdN (b := true) 25 rfl rfl rfl) rfl ?_
      refine WL_val gd0 ((o_pickT (v := .bool true) rfl rfl rfl) _) rfl ?_
      refine WL_val gd0 ((o_move (v := .bool true) rfl) _) rfl ?_
      refine WL_skip (gdN (b := true) 30 rfl rfl rfl) rfl ?_
      refine WL_skip (gdN (b := true) 30 rfl rfl rfl) rfl ?_
      refine WL_skip (gdN (b := true) 30 rfl rfl rfl) rfl ?_
      refine WL_val gd0 ((o_pickT (v := .bool true) rfl rfl rfl) _) rfl ?_
      refine WL_val gd0 ((o_move (v := .bool true) rfl) _) rfl ?_
      refine WL_skip (gdN (b := true) 35 rfl rfl rfl) rfl ?_
      refine WL_skip (gdN (b := true) 35 rfl rfl rfl) rfl ?_
      refine WL_skip (gdN (b := true) 35 rfl rfl rfl) rfl ?_
      refine WL_val gd0 ((o_pickT (v := .bool true) rfl rfl rfl) _) rfl ?_
      refine WL_nil ?_
      refine nrm ?_
      refine WC_cond (t := true) rfl (fun _ => ?_) (fun hx => by rw [(rfl : true = true)] at hx; cases hx)
      refine WC_seq ?_
      refine WC_region ?_
      refine WL_val gd0 ((o_assign (v := .int .i64 1) rfl) _) rfl ?_
      refine WL_nil ?_
      refine nrm ?_
      refine WC_ret ?_
      refine rtT ?_
      refine rtE ?_
      exact gv1 rfl rfl h
    · rw [if_neg (of_decide_eq_false hb13)] at h
      refine WL_val (gdY (b := (decide (interval3 < 1))) 21 rfl rfl hb13) ((o_move (v := .int .i64 interval3) (by exact e2)) _) rfl ?_
      refine WL_val (gdY (b := (decide (interval3 < 1))) 21 rfl rfl hb13) ((o_gtr rfl rfl) _) rfl ?_
      refine WL_val gd0 ((o_pickF (v := .bool (decide (1048576 < interval3))) rfl hb13 rfl) _) rfl ?_
      refine WL_val gd0 ((o_move (v := .bool (decide (1048576 < interval3))) rfl) _) rfl ?_
      refine bsplit (decide (1048576 < interval3)) (fun hb14 => ?_) (fun hb14 => ?_)
      · rw [if_pos (of_decide_eq_true hb14)] at h
        refine WL_skip (gdN (b := (decide (1048576 < interval3))) 25 rfl rfl hb14) rfl ?_
        refine WL_skip (gdN (b := (decide (1048576 < interval3))) 25 rfl rfl hb14) rfl ?_
        refine WL_skip (gdN (b := (decide (1048576 < interval3))) 25 rfl rfl hb14) rfl ?_
        refine WL_val gd0 ((o_pickT (v := .bool true) rfl hb14 rfl) _) rfl ?_
        refine WL_val gd0 ((o_move (v := .bool true) rfl) _) rfl ?_
        refine WL_skip (gdN (b := true) 30 rfl rfl rfl) rfl ?_
        refine WL_skip (gdN (b := true) 30 rfl rfl rfl) rfl ?_
        refine WL_skip (gdN (b := true) 30 rfl rfl rfl) rfl ?_
        refine WL_val gd0 ((o_pickT (v := .bool true) rfl rfl rfl) _) rfl ?_
        refine WL_val gd0 ((o_move (v := .bool true) rfl) _) rfl ?_
        refine WL_skip (gdN (b := true) 35 rfl rfl rfl) rfl ?_
        refine WL_skip (gdN (b := true) 35 rfl rfl rfl) rfl ?_
        refine WL_skip (gdN (b := true) 35 rfl rfl rfl) rfl ?_
        refine WL_val gd0 ((o_pickT (v := .bool true) rfl rfl rfl) _) rfl ?_
        refine WL_nil ?_
        refine nrm ?_
        refine WC_cond (t := true) rfl (fun _ => ?_) (fun hx => by rw [(rfl : true = true)] at hx; cases hx)
        refine WC_seq ?_
        refine WC_region ?_
        refine WL_val gd0 ((o_assign (v := .int .i64 1) rfl) _) rfl ?_
        refine WL_nil ?_
        refine nrm ?_
        refine WC_ret ?_
        refine rtT ?_
        refine rtE ?_
        exact gv1 rfl rfl h
      · rw [if_neg (of_decide_eq_false hb14)] at h
        refine WL_val (gdY (b := (decide (1048576 < interval3))) 25 rfl rfl hb14) ((o_move (v := .slice l_a4 l_n5 l_c6) (by exact e3)) _) rfl ?_
        refine WL_val (gdY (b := (decide (1048576 < interval3))) 25 rfl rfl hb14) ((o_len Try.underlying26 rfl) _) rfl ?_
        refine WL_val (gdY (b := (decide (1048576 < interval3))) 25 rfl rfl hb14) ((o_lss rfl rfl) _) rfl ?_
        refine WL_val gd0 ((o_pickF (v := .bool (decide ((l_n5 : Int) < 1))) rfl hb14 rfl) _) rfl ?_
        refine WL_val gd0 ((o_move (v := .bool (decide ((l_n5 : Int) < 1))) rfl) _) rfl ?_
        refine bsplit (decide ((l_n5 : Int) < 1)) (fun hb15 => ?_) (fun hb15 => ?_)
        · rw [if_pos (of_decide_eq_true hb15)] at h
          refine WL_skip (gdN (b := (decide ((l_n5 : Int) < 1))) 30 rfl rfl hb15) rfl ?_
          refine WL_skip (gdN (b := (decide ((l_n5 : Int) < 1))) 30 rfl rfl hb15) rfl ?_
          refine WL_skip (gdN (b := (decide ((l_n5 : Int) < 1))) 30 rfl rfl hb15) rfl ?_
          refine WL_val gd0 ((o_pickT (v := .bool true) rfl hb15 rfl) _) rfl ?_
          refine WL_val gd0 ((o_move (v := .bool true) rfl) _) rfl ?_
          refine WL_skip (gdN (b := true) 35 rfl rfl rfl) rfl ?_
          refine WL_skip (gdN (b := true) 35 rfl rfl rfl) rfl ?_
          refine WL_skip (gdN (b := true) 35 rfl rfl rfl) rfl ?_
          refine WL_val gd0 ((o_pickT (v := .bool true) rfl rfl rfl) _) rfl ?_
          refine WL_nil ?_
          refine nrm ?_
          refine WC_cond (t := true) rfl (fun _ => ?_) (fun hx => by rw [(rfl : true = true)] at hx; cases hx)
          refine WC_seq ?_
          refine WC_region ?_
          refine WL_val gd0 ((o_assign (v := .int .i64 1) rfl) _) rfl ?_
          refine WL_nil ?_
          refine nrm ?_
          refine WC_ret ?_
          refine rtT ?_
          refine rtE ?_
          exact gv1 rfl rfl h
        · rw [if_neg (of_decide_eq_false hb15)] at h
          refine WL_val (gdY (b := (decide ((l_n5 : Int) < 1))) 30 rfl rfl hb15) ((o_move (v := .slice l_a4 l_n5 l_c6) (by exact e3)) _) rfl ?_
          refine WL_val (gdY (b := (decide ((l_n5 : Int) < 1))) 30 rfl rfl hb15) ((o_len Try.underlying26 rfl) _) rfl ?_
          refine WL_val (gdY (b := (decide ((l_n5 : Int) < 1))) 30 rfl rfl hb15) ((o_gtr rfl rfl) _) rfl ?_
          refine WL_val gd0 ((o_pickF (v := .bool (decide (256 < (l_n5 : Int)))) rfl hb15 rfl) _) rfl ?_
          refine WL_val gd0 ((o_move (v := .bool (decide (256 < (l_n5 : Int)))) rfl) _) rfl ?_
          refine bsplit (decide (256 < (l_n5 : Int))) (fun hb16 => ?_) (fun hb16 => ?_)
          · rw [if_pos (of_decide_eq_true hb16)] at h
            refine WL_skip (gdN (b := (decide (256 < (l_n5 : Int)))) 35 rfl rfl hb16) rfl ?_
            refine WL_skip (gdN (b := (decide (256 < (l_n5 : Int)))) 35 rfl rfl hb16) rfl ?_
            refine WL_skip (gdN (b := (decide (256 < (l_n5 : Int)))) 35 rfl rfl hb16) rfl ?_
            refine WL_val gd0 ((o_pickT (v := .bool true) rfl hb16 rfl) _) rfl ?_
            refine WL_nil ?_
            refine nrm ?_
            refine WC_cond (t := true) rfl (fun _ => ?_) (fun hx => by rw [(rfl : true = true)] at hx; cases hx)
            refine WC_seq ?_
            refine WC_region ?_
            refine WL_val gd0 ((o_assign (v := .int .i64 1) rfl) _) rfl ?_
            refine WL_nil ?_
            refine nrm ?_
            refine WC_ret ?_
            refine rtT ?_
            refine rtE ?_
            exact gv1 rfl rfl h
          · rw [if_neg (of_decide_eq_false hb16)] at h
            refine WL_val (gdY (b := (decide (256 < (l_n5 : Int)))) 35 rfl rfl hb16) ((o_move (v := .slice l_a4 l_n5 l_c6) (by exact e3)) _) rfl ?_
            refine WL_call (gdY (b := (decide (256 < (l_n5 : Int)))) 35 rfl rfl hb16) (o_call Try.call45 (argCons rfl argNil) _) rfl (h.mono ?_)
            rintro _ w17 ⟨x18, rfl, h⟩
            refine WL_val (gdY (b := (decide (256 < (l_n5 : Int)))) 35 rfl rfl hb16) ((o_not rfl) _) rfl ?_
            refine WL_val gd0 ((o_pickF (v := .bool (!x18)) rfl hb16 rfl) _) rfl ?_
            refine WL_nil ?_
            refine nrm ?_
            refine WC_cond (t := (!x18)) rfl (fun hb19 => ?_) (fun hb19 => ?_)
            · rw [if_pos hb19] at h
              refine WC_seq ?_
              refine WC_region ?_
              refine WL_val gd0 ((o_assign (v := .int .i64 1) rfl) _) rfl ?_
              refine WL_nil ?_
              refine nrm ?_
              refine WC_ret ?_
              refine rtT ?_
              refine rtE ?_
              exact gv1 rfl rfl h
            · rw [if_neg (neT hb19)] at h
              refine WC_skip ?_
              refine nrm ?_
              refine WC_seq ?_
              refine WC_region ?_
              refine WL_val gd0 ((o_move (v := .pointer s1) (by exact e0)) _) rfl ?_
              refine WL_val gd0 ((o_move (v := .int .i64 id2) (by exact e1)) _) rfl ?_
              refine WL_call gd0 (o_call Try.call46 (argCons rfl (argCons rfl argNil)) _) rfl (h.mono ?_)
              rintro _ w20 ⟨r21, r22, rfl, h⟩
              refine WL_val gd0 ((o_move (v := .tuple #[.int .i64 r21, .bool r22]) rfl) _) rfl ?_
              refine WL_val gd0 ((o_extract (vs := [.int .i64 r21, .bool r22]) (r := .int .i64 r21) rfl rfl) _) rfl ?_
              refine WL_val gd0 ((o_extract (vs := [.int .i64 r21, .bool r22]) (r := .bool r22) rfl rfl) _) rfl ?_
              refine WL_val gd0 ((o_assign (v := .int .i64 r21) rfl) _) rfl ?_
              refine WL_val gd0 ((o_assign (v := .bool r22) rfl) _) rfl ?_
              refine WL_nil ?_
              refine nrm ?_
              refine WC_seq ?_
              refine WC_seq ?_
              refine WC_region ?_
              refine WL_val gd0 ((o_move (v := .bool r22) rfl) _) rfl ?_
              refine WL_nil ?_
              refine nrm ?_
              refine WC_cond (t := r22) rfl (fun hb23 => ?_) (fun hb23 => ?_)
              · rw [if_pos hb23] at h
                refine WC_seq ?_
                refine WC_region ?_
                refine WL_val gd0 ((o_assign (v := .int .i64 9) rfl) _) rfl ?_
                refine WL_nil ?_
                refine nrm ?_
                refine WC_ret ?_
                refine rtT ?_
                refine rtE ?_
                exact gv1 rfl rfl h
              · rw [if_neg (neT hb23)] at h
                refine WC_skip ?_
                refine nrm ?_
                refine WC_seq ?_
                refine WC_seq ?_
                refine WC_region ?_
                refine WL_val gd0 ((o_move (v := .pointer s1) (by exact e0)) _) rfl ?_
                obtain ⟨p24, q25, h⟩ := h
                refine WL_val gd0 ((o_nilCheck (by exact (congrArg Value.pointer q25))) _) rfl ?_
                refine WL_val gd0 ((o_fieldAddr0 Try.underlying50 rfl Try.sizeOf28 rfl rfl rfl) _) rfl ?_
                obtain ⟨x_a26, x_n27, x_c28, hc29, h⟩ := h
                refine WL_val gd0 (o_load Try.isAgg28 rfl hc29) rfl ?_
                refine WL_val gd0 ((o_len Try.underlying28 rfl) _) rfl ?_
                refine WL_val gd0 ((o_geq rfl rfl) _) rfl ?_
                refine WL_nil ?_
                refine nrm ?_
                refine WC_cond (t := (decide (256 ≤ (x_n27 : Int)))) rfl (fun hb30 => ?_) (fun hb30 => ?_)
                · rw [if_pos (of_decide_eq_true hb30)] at h
                  refine WC_seq ?_
                  refine WC_region ?_
                  refine WL_val gd0 ((o_assign (v := .int .i64 7) rfl) _) rfl ?_
                  refine WL_nil ?_
                  refine nrm ?_
                  refine WC_ret ?_
                  refine rtT ?_
                  refine rtE ?_
                  exact gv1 rfl rfl h
                · rw [if_neg (of_decide_eq_false hb30)] at h
                  refine WC_skip ?_
                  refine nrm ?_
                  refine WC_seq ?_
                  refine WC_region ?_
                  refine WL_val gd0 ((o_assign (v := .slice none 0 0) rfl) _) rfl ?_
                  refine WL_nil ?_
                  refine nrm ?_
                  refine WC_seq ?_
                  refine WC_region ?_
                  refine WL_val gd0 ((o_assign (v := .slice none 0 0) rfl) _) rfl ?_
                  refine WL_nil ?_
                  refine nrm ?_
                  refine WC_seq ?_
                  refine WC_region ?_
                  refine WL_val gd0 ((o_move (v := .slice none 0 0) rfl) _) rfl ?_
                  refine WL_val gd0 ((o_move (v := .pointer s1) (by exact e0)) _) rfl ?_
                  refine WL_val gd0 ((o_nilCheck (by exact (congrArg Value.pointer q25))) _) rfl ?_
                  refine WL_val gd0 ((o_fieldAddr0 Try.underlying50 rfl Try.sizeOf28 rfl rfl rfl) _) rfl ?_
                  obtain ⟨x_a31, x_n32, x_c33, hc34, h⟩ := h
                  refine WL_val gd0 (o_load Try.isAgg28 rfl hc34) rfl ?_
                  refine WL_val gd0 ((o_move (v := .int .i64 r21) rfl) _) rfl ?_
                  obtain ⟨c35, c36, h⟩ := h
                  refine WL_val gd0 ((o_sliceH Try.underlying28 Try.sizeOf31 rfl rfl c35 c36) _) rfl ?_
                  obtain ⟨b_a37, b_n38, b_c39, w40, r41, h⟩ := h
                  refine WL_val gd0 (o_append rfl rfl r41) rfl ?_
                  refine WL_val gd0 ((o_assign (v := .slice b_a37 b_n38 b_c39) rfl) _) rfl ?_
                  refine WL_nil ?_
                  refine nrm ?_
                  refine WC_seq ?_
                  refine WC_region ?_
                  refine WL_val gd0 ((o_move (v := .slice none 0 0) rfl) _) rfl ?_
                  refine WL_val gd0 ((o_move (v := .pointer s1) (by exact e0)) _) rfl ?_
                  refine WL_val gd0 ((o_nilCheck (by exact (congrArg Value.pointer q25))) _) rfl ?_
                  refine WL_val gd0 ((o_fieldAddr 1 Try.underlying50 rfl Try.sizeOf26 rfl rfl rfl) _) rfl ?_
                  obtain ⟨x_a42, x_n43, x_c44, hc45, h⟩ := h
                  refine WL_val gd0 (o_load Try.isAgg26 rfl hc45) rfl ?_
                  refine WL_val gd0 ((o_move (v := .int .i64 r21) rfl) _) rfl ?_
                  obtain ⟨c46, c47, h⟩ := h
                  refine WL_val gd0 ((o_sliceH Try.underlying26 Try.sizeOf3 rfl rfl c46 c47) _) rfl ?_
                  obtain ⟨b_a48, b_n49, b_c50, w51, r52, h⟩ := h
                  refine WL_val gd0 (o_append rfl rfl r52) rfl ?_
                  refine WL_val gd0 ((o_assign (v := .slice b_a48 b_n49 b_c50) rfl) _) rfl ?_
                  refine WL_nil ?_
                  refine nrm ?_
                  refine WC_seq ?_
                  refine WC_region ?_
                  refine WL_val gd0 ((o_move (v := .slice b_a37 b_n38 b_c39) rfl) _) rfl ?_
                  refine WL_val gd0 ((o_move (v := .int .i64 id2) (by exact e1)) _) rfl ?_
                  refine WL_val gd0 ((o_move (v := .int .i64 interval3) (by exact e2)) _) rfl ?_
                  have h := New.out h
                  refine WL_val gd0 (o_buildSlice (e := 3) (ps := []) (cs := []) partNil (fun w => by kernel_rfl)) rfl ?_
                  generalize hp53 : fresh w51 = p53 at h ⊢
                  generalize hw54 : push w51 3 [] = w54 at h ⊢
                  try dsimp only at h
                  refine WL_val gd0 ((o_move (v := .slice l_a4 l_n5 l_c6) (by exact e3)) _) rfl ?_
                  obtain ⟨b_a55, b_n56, b_c57, w58, r59, h⟩ := h
                  refine WL_val gd0 (o_append rfl rfl r59) rfl ?_
                  refine WL_val gd0 ((o_build (ps := [(0, .int .i64 id2), (1, .int .i64 interval3), (3, .slice b_a55 b_n56 b_c57)]) (v := .agg #[.int .i64 id2, .int .i64 interval3, .bool false, .slice b_a55 b_n56 b_c57]) (partCons rfl (partCons rfl (partCons rfl partNil))) (fun w => by kernel_rfl)) _) rfl ?_
                  have h := New.out h
                  refine WL_val gd0 (o_buildSlice (e := 31) (ps := [(0, .agg #[.int .i64 id2, .int .i64 interval3, .bool false, .slice b_a55 b_n56 b_c57])]) (cs := [.int .i64 id2, .int .i64 interval3, .bool false, .slice b_a55 b_n56 b_c57]) (partCons rfl partNil) (fun w => by kernel_rfl)) rfl ?_
                  generalize hp60 : fresh w58 = p60 at h ⊢
                  generalize hw61 : push w58 31 [.int .i64 id2, .int .i64 interval3, .bool false, .slice b_a55 b_n56 b_c57] = w61 at h ⊢
                  try dsimp only at h
                  obtain ⟨b_a62, b_n63, b_c64, w65, r66, h⟩ := h
                  refine WL_val gd0 (o_append rfl rfl r66) rfl ?_
                  refine WL_val gd0 ((o_assign (v := .slice b_a62 b_n63 b_c64) rfl) _) rfl ?_
                  refine WL_nil ?_
                  refine nrm ?_
                  refine WC_seq ?_
                  refine WC_region ?_
                  refine WL_val gd0 ((o_move (v := .slice b_a48 b_n49 b_c50) rfl) _) rfl ?_
                  have h := New.out h
                  refine WL_val gd0 (o_buildSlice (e := 3) (ps := [(0, .int .i64 0)]) (cs := [.int .i64 0]) (partCons rfl partNil) (fun w => by kernel_rfl)) rfl ?_
                  generalize hp67 : fresh w65 = p67 at h ⊢
                  generalize hw68 : push w65 3 [.int .i64 0] = w68 at h ⊢
                  try dsimp only at h
                  obtain ⟨b_a69, b_n70, b_c71, w72, r73, h⟩ := h
                  refine WL_val gd0 (o_append rfl rfl r73) rfl ?_
                  refine WL_val gd0 ((o_assign (v := .slice b_a69 b_n70 b_c71) rfl) _) rfl ?_
                  refine WL_nil ?_
                  refine nrm ?_
                  refine WC_seq ?_
                  refine WC_region ?_
                  refine WL_val gd0 ((o_move (v := .slice b_a62 b_n63 b_c64) rfl) _) rfl ?_
                  refine WL_val gd0 ((o_move (v := .pointer s1) (by exact e0)) _) rfl ?_
                  refine WL_val gd0 ((o_nilCheck (by exact (congrArg Value.pointer q25))) _) rfl ?_
                  refine WL_val gd0 ((o_fieldAddr0 Try.underlying50 rfl Try.sizeOf28 rfl rfl rfl) _) rfl ?_
                  obtain ⟨x_a74, x_n75, x_c76, hc77, h⟩ := h
                  refine WL_val gd0 (o_load Try.isAgg28 rfl hc77) rfl ?_
                  refine WL_val gd0 ((o_move (v := .int .i64 r21) rfl) _) rfl ?_
                  obtain ⟨c78, c79, h⟩ := h
                  refine WL_val gd0 ((o_sliceL Try.underlying28 Try.sizeOf31 rfl rfl c78 c79) _) rfl ?_
                  obtain ⟨b_a80, b_n81, b_c82, w83, r84, h⟩ := h
                  refine WL_val gd0 (o_append rfl rfl r84) rfl ?_
                  refine WL_val gd0 ((o_assign (v := .slice b_a80 b_n81 b_c82) rfl) _) rfl ?_
                  refine WL_nil ?_
                  refine nrm ?_
                  refine WC_seq ?_
                  refine WC_region ?_
                  refine WL_val gd0 ((o_move (v := .slice b_a69 b_n70 b_c71) rfl) _) rfl ?_
                  refine WL_val gd0 ((o_move (v := .pointer s1) (by exact e0)) _) rfl ?_
                  refine WL_val gd0 ((o_nilCheck (by exact (congrArg Value.pointer q25))) _) rfl ?_
                  refine WL_val gd0 ((o_fieldAddr 1 Try.underlying50 rfl Try.sizeOf26 rfl rfl rfl) _) rfl ?_
                  obtain ⟨x_a85, x_n86, x_c87, hc88, h⟩ := h
                  refine WL_val gd0 (o_load Try.isAgg26 rfl hc88) rfl ?_
                  refine WL_val gd0 ((o_move (v := .int .i64 r21) rfl) _) rfl ?_
                  obtain ⟨c89, c90, h⟩ := h
                  refine WL_val gd0 ((o_sliceL Try.underlying26 Try.sizeOf3 rfl rfl c89 c90) _) rfl ?_
                  obtain ⟨b_a91, b_n92, b_c93, w94, r95, h⟩ := h
                  refine WL_val gd0 (o_append rfl rfl r95) rfl ?_
                  refine WL_val gd0 ((o_assign (v := .slice b_a91 b_n92 b_c93) rfl) _) rfl ?_
                  refine WL_nil ?_
                  refine nrm ?_
                  refine WC_seq ?_
                  refine WC_region ?_
                  refine WL_val gd0 ((o_move (v := .pointer s1) (by exact e0)) _) rfl ?_
                  refine WL_val gd0 ((o_move (v := .slice b_a80 b_n81 b_c82) rfl) _) rfl ?_
                  refine WL_val gd0 ((o_nilCheck (by exact (congrArg Value.pointer q25))) _) rfl ?_
                  refine WL_val gd0 ((o_fieldAddr0 Try.underlying50 rfl Try.sizeOf28 rfl rfl rfl) _) rfl ?_
                  obtain ⟨c97, h⟩ := h
                  refine WL_act gd0 (o_store (v := .slice b_a80 b_n81 b_c82) Try.sizeOf28 rfl rfl rfl c97) ?_
                  generalize hw96 : World.setCell w94 p24 (.slice b_a80 b_n81 b_c82) = w96 at h ⊢
                  try dsimp only at h
                  refine WL_nil ?_
                  refine nrm ?_
                  refine WC_seq ?_
                  refine WC_region ?_
                  refine WL_val gd0 ((o_move (v := .pointer s1) (by exact e0)) _) rfl ?_
                  refine WL_val gd0 ((o_move (v := .slice b_a91 b_n92 b_c93) rfl) _) rfl ?_
                  refine WL_val gd0 ((o_nilCheck (by exact (congrArg Value.pointer q25))) _) rfl ?_
                  refine WL_val gd0 ((o_fieldAddr 1 Try.underlying50 rfl Try.sizeOf26 rfl rfl rfl) _) rfl ?_
                  obtain ⟨c99, h⟩ := h
                  refine WL_act gd0 (o_store (v := .slice b_a91 b_n92 b_c93) Try.sizeOf26 rfl rfl rfl c99) ?_
                  generalize hw98 : World.setCell w96 (p24.add 1) (.slice b_a91 b_n92 b_c93) = w98 at h ⊢
                  try dsimp only at h
                  refine WL_nil ?_
                  refine nrm ?_
                  refine WC_seq ?_
                  refine WC_region ?_
                  refine WL_val gd0 ((o_assign (v := .int .i64 0) rfl) _) rfl ?_
                  refine WL_nil ?_
                  refine nrm ?_
                  refine WC_ret ?_
                  refine rtE ?_
                  exact gv1 rfl rfl h

def F30_j1 (b_a19 : Option Addr) (r8 : Int) (b_n20 : Nat) (on3 : Bool) (p13 : Addr) (b_c21 : Nat) (b_a30 : Option Addr) (b_n31 : Nat) (b_c32 : Nat) (w40 : World) (k : Value → World → Prop) : Prop :=
  ∃ (p43 : Addr), b_a19 = some p43 ∧ (0 : Int) ≤ r8 ∧ r8 < (b_n20 : Int) ∧ Put w40 ((p43.add (r8.toNat * 4)).add 2) (.bool on3) (fun w45 => Put w45 p13 (.slice b_a19 b_n20 b_c21) (fun w47 => Put w47 (p13.add 1) (.slice b_a30 b_n31 b_c32) (fun w49 => k (.int .i64 0) w49)))
def F30_j2 (p13 : Addr) (b_a19 : Option Addr) (r8 : Int) (b_n20 : Nat) (b_a30 : Option Addr) (b_n31 : Nat) (on3 : Bool) (b_c21 : Nat) (b_c32 : Nat) (t57 : Bool) (w58 : World) (k : Value → World → Prop) : Prop :=
  if t57 = true then
  ∃ (x60 : Int), w58.drew.cell? (p13.add 2) = some (.int .i64 x60) ∧ ∃ (p64 : Addr), b_a19 = some p64 ∧ (0 : Int) ≤ r8 ∧ r8 < (b_n20 : Int) ∧ ∃ (x66 : Int), w58.drew.cell? ((p64.add (r8.toNat * 4)).add 1) = some (.int .i64 x66) ∧ ∃ (p70 : Addr), b_a30 = some p70 ∧ (0 : Int) ≤ r8 ∧ r8 < (b_n31 : Int) ∧ Put w58.drew (p70.add r8.toNat) (.int .i64 (IntKind.i64.wrap (x60 + x66))) (fun w72 => F30_j1 b_a19 r8 b_n20 on3 p13 b_c21 b_a30 b_n31 b_c32 w72 k)
else
  F30_j1 b_a19 r8 b_n20 on3 p13 b_c21 b_a30 b_n31 b_c32 w58 k
/-- (*spacecraft spacecraftref34.Service).Enable -/
def F30 (s1 : Option Addr) (id2 : Int) (on3 : Bool) (now4 : Int) (w5 : World) (k : Value → World → Prop) : Prop :=
  Does Try.prog 47 #[.pointer s1, .int .i64 now4] w5 (fun v w6 => v = .tuple #[] ∧ Does Try.prog 46 #[.pointer s1, .int .i64 id2] w6 (fun v w7 => ∃ (r8 : Int) (r9 : Bool), v = .tuple #[.int .i64 r8, .bool r9] ∧ if (!r9) = true then
  k (.int .i64 8) w7
else
  New w7 31 [] (fun p11 w12 => ∃ (p13 : Addr), s1 = some p13 ∧ ∃ (x_a15 : Option Addr) (x_n16 x_c17 : Nat), w12.cell? p13 = some (.slice x_a15 x_n16 x_c17) ∧ ∃ (b_a19 : Option Addr) (b_n20 b_c21 : Nat) (w22 : World), (Builtin.append_ #[28, 28] 28 #[.slice (some p11) 0 0, .slice x_a15 x_n16 x_c17]).run Try.prog w12 = .ok (.slice b_a19 b_n20 b_c21) w22 ∧ New w22 3 [] (fun p24 w25 => ∃ (x_a26 : Option Addr) (x_n27 x_c28 : Nat), w25.cell? (p13.add 1) = some (.slice x_a26 x_n27 x_c28) ∧ ∃ (b_a30 : Option Addr) (b_n31 b_c32 : Nat) (w33 : World), (Builtin.append_ #[26, 26] 26 #[.slice (some p24) 0 0, .slice x_a26 x_n27 x_c28]).run Try.prog w25 = .ok (.slice b_a30 b_n31 b_c32) w33 ∧ if on3 = true then
    ∃ (p77 : Addr), b_a19 = some p77 ∧ (0 : Int) ≤ r8 ∧ r8 < (b_n20 : Int) ∧ ∃ (x79 : Bool), w33.cell? ((p77.add (r8.toNat * 4)).add 2) = some (.bool x79) ∧ F30_j2 p13 b_a19 r8 b_n20 b_a30 b_n31 on3 b_c21 b_c32 (!x79) w33 k
  else
    F30_j2 p13 b_a19 r8 b_n20 b_a30 b_n31 on3 b_c21 b_c32 false w33 k))))
set_option maxRecDepth 100000 in
set_option maxHeartbeats 2000000 in
theorem w30 (s1 : Option Addr) (id2 : Int) (on3 : Bool) (now4 : Int) (w5 : World) (k : Value → World → Prop) (h : F30 s1 id2 on3 now4 w5 k) : Does Try.prog 30 #[.pointer s1, .int .i64 id2, .bool on3, .int .i64 now4] w5 k := by
  refine enter 71 Try.func30 rfl rfl rfl ?_
  intro ρ hρ
  have e0 := hρ 0 _ rfl
  have e1 := hρ 1 _ rfl
  have e2 := hρ 2 _ rfl
  have e3 := hρ 3 _ rfl
  unfold F30 at h
  refine WC_seq ?_
  refine WC_region ?_
  refine WL_val gd0 ((o_assign (v := .int .i64 0) rfl) _) rfl ?_
  refine WL_nil ?_
  refine nrm ?_
  refine WC_seq ?_
  refine WC_region ?_
  refine WL_val gd0 ((o_move (v := .pointer s1) (by exact e0)) _) rfl ?_
  refine WL_val gd0 ((o_move (v := .int .i64 now4) (by exact e3)) _) rfl ?_
  refine WL_call gd0 (o_call Try.call47 (argCons rfl (argCons rfl argNil)) _) rfl (h.mono ?_)
  rintro _ w6 ⟨rfl, h⟩
  refine WL_nil ?_
  refine nrm ?_
  refine WC_seq ?_
  refine WC_region ?_
  refine WL_val gd0 ((o_move (v := .pointer s1) (by exact e0)) _) rfl ?_
  refine WL_val gd0 ((o_move (v := .int .i64 id2) (by exact e1)) _) rfl ?_
  refine WL_call gd0 (o_call Try.call46 (argCons rfl (argCons rfl argNil)) _) rfl (h.mono ?_)
  rintro _ w7 ⟨r8, r9, rfl, h⟩
  refine WL_val gd0 ((o_move (v := .tuple #[.int .i64 r8, .bool r9]) rfl) _) rfl ?_
  refine WL_val gd0 ((o_extract (vs := [.int .i64 r8, .bool r9]) (r := .int .i64 r8) rfl rfl) _) rfl ?_
  refine WL_val gd0 ((o_extract (vs := [.int .i64 r8, .bool r9]) (r := .bool r9) rfl rfl) _) rfl ?_
  refine WL_val gd0 ((o_assign (v := .int .i64 r8) rfl) _) rfl ?_
  refine WL_val gd0 ((o_assign (v := .bool r9) rfl) _) rfl ?_
  refine WL_nil ?_
  refine nrm ?_
  refine WC_seq ?_
  refine WC_seq ?_
  refine WC_region ?_
  refine WL_val gd0 ((o_move (v := .bool r9) rfl) _) rfl ?_
  refine WL_val gd0 ((o_not rfl) _) rfl ?_
  refine WL_nil ?_
  refine nrm ?_
  refine WC_cond (t := (!r9)) rfl (fun hb10 => ?_) (fun hb10 => ?_)
  · rw [if_pos hb10] at h
    refine WC_seq ?_
    refine WC_region ?_
    refine WL_val gd0 ((o_assign (v := .int .i64 8) rfl) _) rfl ?_
    refine WL_nil ?_
    refine nrm ?_
    refine WC_ret ?_
    refine rtT ?_
    refine rtE ?_
    exact gv1 rfl rfl h
  · rw [if_neg (neT hb10)] at h
    refine WC_skip ?_
    refine nrm ?_
    refine WC_seq ?_
    refine WC_region ?_
    have h := New.out h
    refine WL_val gd0 (o_buildSlice (e := 31) (ps := []) (cs := []) partNil (fun w => by kernel_rfl)) rfl ?_
    generalize hp11 : fresh w7 = p11 at h ⊢
    generalize hw12 : push w7 31 [] = w12 at h ⊢
    try dsimp only at h
    refine WL_val gd0 ((o_move (v := .pointer s1) (by exact e0)) _) rfl ?_
    obtain ⟨p13, q14, h⟩ := h
    refine WL_val gd0 ((o_nilCheck (by exact (congrArg Value.pointer q14))) _) rfl ?_
    refine WL_val gd0 ((o_fieldAddr0 Try.underlying50 rfl Try.sizeOf28 rfl rfl rfl) _) rfl ?_
    obtain ⟨x_a15, x_n16, x_c17, hc18, h⟩ := h
    refine WL_val gd0 (o_load Try.isAgg28 rfl hc18) rfl ?_
    obtain ⟨b_a19, b_n20, b_c21, w22, r23, h⟩ := h
    refine WL_val gd0 (o_append rfl rfl r23) rfl ?_
    refine WL_val gd0 ((o_assign (v := .slice b_a19 b_n20 b_c21) rfl) _) rfl ?_
    refine WL_nil ?_
    refine nrm ?_
    refine WC_seq ?_
    refine WC_region ?_
    have h := New.out h
    refine WL_val gd0 (o_buildSlice (e := 3) (ps := []) (cs := []) partNil (fun w => by kernel_rfl)) rfl ?_
    generalize hp24 : fresh w22 = p24 at h ⊢
    generalize hw25 : push w22 3 [] = w25 at h ⊢
    try dsimp only at h
    refine WL_val gd0 ((o_move (v := .pointer s1) (by exact e0)) _) rfl ?_
    refine WL_val gd0 ((o_nilCheck (by exact (congrArg Value.pointer q14))) _) rfl ?_
    refine WL_val gd0 ((o_fieldAddr 1 Try.underlying50 rfl Try.sizeOf26 rfl rfl rfl) _) rfl ?_
    obtain ⟨x_a26, x_n27, x_c28, hc29, h⟩ := h
    refine WL_val gd0 (o_load Try.isAgg26 rfl hc29) rfl ?_
    obtain ⟨b_a30, b_n31, b_c32, w33, r34, h⟩ := h
    refine WL_val gd0 (o_append rfl rfl r34) rfl ?_
    refine WL_val gd0 ((o_assign (v := .slice b_a30 b_n31 b_c32) rfl) _) rfl ?_
    refine WL_nil ?_
    refine nrm ?_
    refine WC_cut (fun ρ w' => ρ 0 = .pointer s1 ∧ ρ 2 = .bool on3 ∧ ρ 9 = .int .i64 r8 ∧ ρ 11 = .slice b_a19 b_n20 b_c21 ∧ ρ 12 = .slice b_a30 b_n31 b_c32 ∧ F30_j1 b_a19 r8 b_n20 on3 p13 b_c21 b_a30 b_n31 b_c32 w' k) ?_ ?_
    · refine WC_cut (fun ρ w' => ∃ (t57 : Bool), ρ 44 = .bool t57 ∧ ρ 0 = .pointer s1 ∧ ρ 2 = .bool on3 ∧ ρ 9 = .int .i64 r8 ∧ ρ 11 = .slice b_a19 b_n20 b_c21 ∧ ρ 12 = .slice b_a30 b_n31 b_c32 ∧ F30_j2 p13 b_a19 r8 b_n20 b_a30 b_n31 on3 b_c21 b_c32 t57 w' k) ?_ ?_
      · refine WC_region ?_
        refine WL_val gd0 ((o_move (v := .bool on3) (by exact e2)) _) rfl ?_
        refine WL_val gd0 ((o_move (v := .bool on3) rfl) _) rfl ?_
        refine bsplit on3 (fun hb74 => ?_) (fun hb74 => ?_)
        · rw [if_pos hb74] at h
          refine WL_val (gdY (b := on3) 37 rfl rfl hb74) ((o_move (v := .slice b_a19 b_n20 b_c21) rfl) _) rfl ?_
          refine WL_val (gdY (b := on3) 37 rfl rfl hb74) ((o_move (v := .int .i64 r8) rfl) _) rfl ?_
          obtain ⟨p77, q78, h⟩ := h
          obtain ⟨l75, u76, h⟩ := h
          refine WL_val (gdY (b := on3) 37 rfl rfl hb74) ((o_indexAddr Try.underlying28 Try.sizeOf31 (by exact (congrArg (fun z => Value.slice z b_n20 b_c21) q78)) rfl l75 u76) _) rfl ?_
          refine WL_val (gdY (b := on3) 37 rfl rfl hb74) ((o_fieldAddr 2 Try.underlying31 rfl Try.sizeOf4 rfl rfl rfl) _) rfl ?_
          obtain ⟨x79, hc80, h⟩ := h
          refine WL_val (gdY (b := on3) 37 rfl rfl hb74) (o_load Try.isAgg4 rfl hc80) rfl ?_
          refine WL_val (gdY (b := on3) 37 rfl rfl hb74) ((o_not rfl) _) rfl ?_
          refine WL_val gd0 ((o_pickT (v := .bool (!x79)) rfl hb74 rfl) _) rfl ?_
          refine WL_nil ?_
          refine nrm ?_
          exact ⟨_, rfl, e0, e2, rfl, rfl, rfl, h⟩
        · rw [if_neg (neT hb74)] at h
          refine WL_skip (gdN (b := on3) 37 rfl rfl hb74) rfl ?_
          refine WL_skip (gdN (b := on3) 37 rfl rfl hb74) rfl ?_
          refine WL_skip (gdN (b := on3) 37 rfl rfl hb74) rfl ?_
          refine WL_skip (gdN (b := on3) 37 rfl rfl hb74) rfl ?_
          refine WL_skip (gdN (b := on3) 37 rfl rfl hb74) rfl ?_
          refine WL_skip (gdN (b := on3) 37 rfl rfl hb74) rfl ?_
          refine WL_val gd0 ((o_pickF (v := .bool false) rfl hb74 rfl) _) rfl ?_
          refine WL_nil ?_
          refine nrm ?_
          exact ⟨_, rfl, e0, e2, rfl, rfl, rfl, h⟩
      · rintro ρ w58 ⟨t57, e44_56, e0_51, e2_52, e9_53, e11_54, e12_55, h⟩
        unfold F30_j2 at h
        refine WC_cond (t := t57) (by exact e44_56) (fun hb59 => ?_) (fun hb59 => ?_)
        · rw [if_pos hb59] at h
          refine WC_draws [13] (.look 0 (.look 1 (.look 2 (.look 3 (.look 4 (.look 5 (.look 6 (.look 7 (.look 8 (.look 9 (.look 10 (.look 11 (.look 12 (.act 13 .nil)))))))))))))) Try.mixed (by kernel_rfl) ?_
          refine WQ_val rfl gd0 (o_move (v := .slice b_a30 b_n31 b_c32) (by exact e12_55)) rfl ?_
          refine WQ_val rfl gd0 (o_move (v := .int .i64 r8) (by exact e9_53)) rfl ?_
          refine WQ_val rfl gd0 (o_move (v := .pointer s1) (by exact e0_51)) rfl ?_
          refine WQ_val rfl gd0 (o_nilCheck (by exact (congrArg Value.pointer q14))) rfl ?_
          refine WQ_val rfl gd0 (o_fieldAddr 2 Try.underlying50 rfl Try.sizeOf3 rfl rfl rfl) rfl ?_
          obtain ⟨x60, hc61, h⟩ := h
          refine WQ_look (fun w => w.cell? (p13.add 2) = some (.int .i64 x60)) rfl gd0 (fun w hc => (o_load Try.isAgg3 rfl hc)) hc61 rfl ?_
          refine WQ_val rfl gd0 (o_move (v := .slice b_a19 b_n20 b_c21) (by exact e11_54)) rfl ?_
          refine WQ_val rfl gd0 (o_move (v := .int .i64 r8) (by exact e9_53)) rfl ?_
          obtain ⟨p64, q65, h⟩ := h
          obtain ⟨l62, u63, h⟩ := h
          refine WQ_val rfl gd0 (o_indexAddr Try.underlying28 Try.sizeOf31 (by exact (congrArg (fun z => Value.slice z b_n20 b_c21) q65)) rfl l62 u63) rfl ?_
          refine WQ_val rfl gd0 (o_fieldAddr 1 Try.underlying31 rfl Try.sizeOf3 rfl rfl rfl) rfl ?_
          obtain ⟨x66, hc67, h⟩ := h
          refine WQ_look (fun w => w.cell? ((p64.add (r8.toNat * 4)).add 1) = some (.int .i64 x66)) rfl gd0 (fun w hc => (o_load Try.isAgg3 rfl hc)) hc67 rfl ?_
          refine WQ_val rfl gd0 (o_add rfl rfl) rfl ?_
          obtain ⟨p70, q71, h⟩ := h
          obtain ⟨l68, u69, h⟩ := h
          refine WQ_val rfl gd0 (o_indexAddr1 Try.underlying26 Try.sizeOf3 (by exact (congrArg (fun z => Value.slice z b_n31 b_c32) q71)) rfl l68 u69) rfl ?_
          obtain ⟨c73, h⟩ := h
          refine WQ_do rfl gd0 (o_store (v := .int .i64 (IntKind.i64.wrap (x60 + x66))) Try.sizeOf3 rfl rfl rfl c73) (by exact ⟨⟨trivial, depT (by kernel_rfl)⟩, depT (by kernel_rfl)⟩) ?_
          generalize hw72 : World.setCell w58.drew (p70.add r8.toNat) (.int .i64 (IntKind.i64.wrap (x60 + x66))) = w72 at h ⊢
          try dsimp only at h
          refine WQ_nil ?_
          refine nrm ?_
          exact ⟨e0_51, e2_52, e9_53, e11_54, e12_55, h⟩
        · rw [if_neg (neT hb59)] at h
          refine WC_skip ?_
          refine nrm ?_
          exact ⟨e0_51, e2_52, e9_53, e11_54, e12_55, h⟩
    · rintro ρ w40 ⟨e0_35, e2_36, e9_37, e11_38, e12_39, h⟩
      unfold F30_j1 at h
      refine WC_seq ?_
      refine WC_region ?_
      refine WL_val gd0 ((o_move (v := .slice b_a19 b_n20 b_c21) (by exact e11_38)) _) rfl ?_
      refine WL_val gd0 ((o_move (v := .int .i64 r8) (by exact e9_37)) _) rfl ?_
      refine WL_val gd0 ((o_move (v := .bool on3) (by exact e2_36)) _) rfl ?_
      obtain ⟨p43, q44, h⟩ := h
      obtain ⟨l41, u42, h⟩ := h
      refine WL_val gd0 ((o_indexAddr Try.underlying28 Try.sizeOf31 (by exact (congrArg (fun z => Value.slice z b_n20 b_c21) q44)) rfl l41 u42) _) rfl ?_
      refine WL_val gd0 ((o_fieldAddr 2 Try.underlying31 rfl Try.sizeOf4 rfl rfl rfl) _) rfl ?_
      obtain ⟨c46, h⟩ := h
      refine WL_act gd0 (o_store (v := .bool on3) Try.sizeOf4 rfl rfl rfl c46) ?_
      generalize hw45 : World.setCell w40 ((p43.add (r8.toNat * 4)).add 2) (.bool on3) = w45 at h ⊢
      try dsimp only at h
      refine WL_nil ?_
      refine nrm ?_
      refine WC_seq ?_
      refine WC_region ?_
      refine WL_val gd0 ((o_move (v := .pointer s1) (by exact e0_35)) _) rfl ?_
      refine WL_val gd0 ((o_move (v := .slice b_a19 b_n20 b_c21) (by exact e11_38)) _) rfl ?_
      refine WL_val gd0 ((o_nilCheck (by exact (congrArg Value.pointer q14))) _) rfl ?_
      refine WL_val gd0 ((o_fieldAddr0 Try.underlying50 rfl Try.sizeOf28 rfl rfl rfl) _) rfl ?_
      obtain ⟨c48, h⟩ := h
      refine WL_act gd0 (o_store (v := .slice b_a19 b_n20 b_c21) Try.sizeOf28 rfl rfl rfl c48) ?_
      generalize hw47 : World.setCell w45 p13 (.slice b_a19 b_n20 b_c21) = w47 at h ⊢
      try dsimp only at h
      refine WL_nil ?_
      refine nrm ?_
      refine WC_seq ?_
      refine WC_region ?_
      refine WL_val gd0 ((o_move (v := .pointer s1) (by exact e0_35)) _) rfl ?_
      refine WL_val gd0 ((o_move (v := .slice b_a30 b_n31 b_c32) (by exact e12_39)) _) rfl ?_
      refine WL_val gd0 ((o_nilCheck (by exact (congrArg Value.pointer q14))) _) rfl ?_
      refine WL_val gd0 ((o_fieldAddr 1 Try.underlying50 rfl Try.sizeOf26 rfl rfl rfl) _) rfl ?_
      obtain ⟨c50, h⟩ := h
      refine WL_act gd0 (o_store (v := .slice b_a30 b_n31 b_c32) Try.sizeOf26 rfl rfl rfl c50) ?_
      generalize hw49 : World.setCell w47 (p13.add 1) (.slice b_a30 b_n31 b_c32) = w49 at h ⊢
      try dsimp only at h
      refine WL_nil ?_
      refine nrm ?_
      refine WC_seq ?_
      refine WC_region ?_
      refine WL_val gd0 ((o_assign (v := .int .i64 0) rfl) _) rfl ?_
      refine WL_nil ?_
      refine nrm ?_
      refine WC_ret ?_
      refine rtE ?_
      exact gv1 rfl rfl h


end Go.Proofs.Ytcgkmmiokmbjdaa
