/-
  The contracts of chapter 22: New of the reference. The orders in which its three lists may be made are printed by a program of this claim (c22_new.py).
-/
import Derived.Test.YtjjhghcaecodpaaNext2
namespace Go.Proofs.Ytjjhghcaecodpaa
open Go Go.Sh Go.Proofs
set_option linter.unusedVariables false
set_option linter.unusedSimpArgs false
set_option linter.unusedSectionVars false

/-- What the reference's New returns. -/
def RNew (L : List Ch) (w : World) (v : Value) (w' : World) : Prop := Mod [] w w' ∧ ((newE [] L ≠ 0 ∧ v = .tuple #[.agg #[.slice none 0 0, .slice none 0 0, .slice none 0 0], .int .i64 (newE [] L)]) ∨ (newE [] L = 0 ∧ ∃ a c x y, v = .tuple #[.agg #[.slice a L.length c, .slice (some (base x)) L.length L.length, .slice (some (base y)) L.length L.length], .int .i64 0] ∧
  Own w' 35 3 a L.length c (L.flatMap chc) ∧ Blk w' x 3 (List.replicate L.length (.int .i64 0)) ∧ Blk w' y 3 (List.replicate L.length (.int .i64 0)) ∧ x ≠ y ∧ w.heap.size ≤ x ∧ w.heap.size ≤ y ∧ ∀ q ∈ fp a, w.heap.size ≤ q))
theorem rnew_ok {w : World} {a : Option Addr} {L : List Ch} (l_c : Nat) (hr0 : Rd w a (L.flatMap chc)) (hl : L.length ≤ 1000) : Does Try.prog 9 #[.slice a L.length l_c] w (RNew L w) := by
  apply w9
  unfold F9
  refine New.use fun w1 h1 m1 z1 => ?_
  refine LoopP.of (fun (x : Int) w' => ∃ (i : Nat), i ≤ L.length ∧ x = (i : Int) ∧ Mod [] w1 w' ∧ newE [] L = newE (L.take i) (L.drop i)) (fun x _ => L.length - x.toNat) ⟨0, by omega, rfl, Mod.refl _, rfl⟩ ?_
  rintro _ w2 ⟨i, hi, rfl, m2, hE⟩
  have M2 := m1.none m2
  have bad : ∀ (w' : World) (e : Int), Mod [] w1 w' → newE [] L = e → e ≠ 0 → PutAll w' (base w.heap.size) [.slice none 0 0, .slice none 0 0, .slice none 0 0] (fun w62 => ∃ (r_a64 : Option Addr) (r_n65 r_c66 : Nat) (r_a67 : Option Addr) (r_n68 r_c69 : Nat) (r_a70 : Option Addr) (r_n71 r_c72 : Nat), Cells w62 (base w.heap.size) 0 [.slice r_a64 r_n65 r_c66, .slice r_a67 r_n68 r_c69, .slice r_a70 r_n71 r_c72] ∧ RNew L w (.tuple #[.agg #[.slice r_a64 r_n65 r_c66, .slice r_a67 r_n68 r_c69, .slice r_a70 r_n71 r_c72], .int .i64 e]) w62) := by
    intro w' e m he h0
    refine PutAll.use (h1.mod m (by simp)) rfl fun w3 h3 m3 => ⟨_, _, _, _, _, _, _, _, _, h3.cells, (m1.none m).trans m3 (fun y hy => .inr (by simp at hy; omega)), .inl ⟨by rw [he]; exact h0, by rw [he]⟩⟩
  unfold F9_b1
  refine iteI (fun hlt => ?_) (fun hlt => ?_)
  · have hlt : i < L.length := by omega
    obtain ⟨p, rfl, hc⟩ := (hr0.mod M2 (by simp)).flat (chc_len _) (by decide) hlt
    refine ⟨p, rfl, by omega, by omega, _, _, _, ⟨by have := hc 0 _ rfl; rw [add_zero] at this; rw [Int.toNat_natCast, add_zero]; exact this, hc 1 _ rfl, hc 2 _ rfl, trivial⟩, ?_⟩
    refine New.put rfl fun w4 h4 m4 z4 => ?_
    have m24 := m2.none m4
    rw [newE_step hlt] at hE
    have no : ∀ (nx : Int → World → Prop), ¬ okC L[i] → F9_j2 (base w.heap.size) (i : Int) L.length p (base w2.heap.size) true w4 (RNew L w) nx := by
      intro nx hbad
      unfold F9_j2
      rw [if_pos rfl]
      rw [if_pos hbad] at hE
      exact bad w4 1 m24 hE (by decide)
    refine ⟨_, h4.cell0, iteI (fun hh => no _ (fun ok => by have := ok.1; omega)) (fun k1 => ?_)⟩
    refine ⟨_, h4.cell0, iteI (fun hh => no _ (fun ok => by have := ok.2.1; omega)) (fun k2 => ?_)⟩
    refine ⟨_, h4.cell (i := 1) rfl, iteI (fun hh => no _ (fun ok => by have := ok.2.2.1; omega)) (fun k3 => ?_)⟩
    refine ⟨_, h4.cell (i := 1) rfl, iteI (fun hh => no _ (fun ok => by have := ok.2.2.2.1; omega)) (fun k4 => ?_)⟩
    refine ⟨_, h4.cell (i := 2) rfl, iteI (fun hh => no _ (fun ok => by have := ok.2.2.2.2.1; omega)) (fun k5 => ?_)⟩
    refine ⟨_, h4.cell (i := 2) rfl, ?_⟩
    by_cases k6 : 100 < L[i].wt
    · rw [decide_eq_true k6]
      exact no _ (fun ok => by have := ok.2.2.2.2.2; omega)
    rw [decide_eq_false k6]
    have ok : okC L[i] := ⟨by omega, by omega, by omega, by omega, by omega, by omega⟩
    rw [if_neg (fun h => h ok)] at hE
    unfold F9_j2
    rw [if_neg (by simp)]
    refine LoopP.of (fun (x : Int) w' => ∃ (j : Nat), j ≤ i ∧ x = (j : Int) ∧ Mod [] w4 w' ∧ ∀ k (hk : k < j) (hkl : k < L.length), L[k].id ≠ L[i].id) (fun x _ => i - x.toNat) ⟨0, by omega, rfl, Mod.refl _, by omega⟩ ?_
    rintro _ w5 ⟨j, hj, rfl, m5, hb⟩
    have m25 := m24.none m5
    unfold F9_b3
    refine iteI (fun hji => ?_) (fun hji => ?_)
    · have hjl : j < L.length := by omega
      have md : Mod [] w5 w5.drew := Mod.drew w5
      obtain ⟨p', hp', hd⟩ := (hr0.mod ((m1.none m25).none md) (by simp)).flat (chc_len _) (by decide) hjl
      cases hp'
      have h5 : Blk w5.drew w2.heap.size 35 _ := h4.mod (m5.none md) (by simp)
      refine ⟨by omega, by omega, _, by have := hd 0 _ rfl; rw [add_zero] at this; exact this, _, h5.cell0, iteI (fun hh => ?_) (fun hh => ?_)⟩
      · have hhas : hasId (L.take i) L[i].id = true := by
          unfold hasId
          rw [List.any_eq_true]
          exact ⟨L[j], List.mem_iff_getElem.2 ⟨j, by rw [List.length_take]; omega, List.getElem_take⟩, decide_eq_true hh⟩
        rw [if_pos hhas] at hE
        exact bad w5.drew 9 (m25.none md) hE (by decide)
      · rw [wi64 (by omega)]
        refine ⟨_, by omega, ⟨j + 1, by omega, rfl, m5.none md, fun k hk hkl => ?_⟩, rfl⟩
        by_cases hkj : k = j
        · subst hkj; exact hh
        · exact hb k (by omega) hkl
    · have hno : ¬ hasId (L.take i) L[i].id = true := by
        unfold hasId
        rw [List.any_eq_true]
        rintro ⟨c, hcm, hid⟩
        obtain ⟨k, hk, rfl⟩ := List.getElem_of_mem hcm
        rw [List.length_take] at hk
        rw [List.getElem_take] at hid
        exact hb k (by omega) (by omega) (of_decide_eq_true hid)
      rw [if_neg hno] at hE
      rw [wi64 (by omega)]
      exact ⟨_, by omega, ⟨i + 1, by omega, rfl, m25, hE⟩, rfl⟩
  · have hil : i = L.length := by omega
    subst hil
    rw [List.drop_length] at hE
    have hE : newE [] L = 0 := hE
    have md : Mod [] w2 w2.drew := Mod.drew w2
    have hr : Rd w2.drew a (L.flatMap chc) := hr0.mod (M2.none md) (by simp)
    have h5 : Blk w2.drew w.heap.size 30 [.slice none 0 0, .slice none 0 0, .slice none 0 0] := h1.mod (m2.none md) (by simp)
    have MM := M2.none md
    have zz := MM.size
    have hlt5 := h5.lt
    clear hr0 M2 md h1 hlt hi bad
    generalize w2.drew = w0 at *
    have M0 : Mod [] w0 w0 := Mod.refl _
    have fin : ∀ (w' : World) (b : Option Addr) (c x y : Nat), Mod [] w0 w' → Own w' 35 3 b L.length c (L.flatMap chc) → Blk w' x 3 (List.replicate L.length (.int .i64 0)) → Blk w' y 3 (List.replicate L.length (.int .i64 0)) → x ≠ y → w0.heap.size ≤ x → w0.heap.size ≤ y → (∀ q ∈ fp b, w0.heap.size ≤ q) →
        PutAll w' (base w.heap.size) [.slice b L.length c, .slice (some (base x)) L.length L.length, .slice (some (base y)) L.length L.length] (fun w62 => ∃ (r_a64 : Option Addr) (r_n65 r_c66 : Nat) (r_a67 : Option Addr) (r_n68 r_c69 : Nat) (r_a70 : Option Addr) (r_n71 r_c72 : Nat), Cells w62 (base w.heap.size) 0 [.slice r_a64 r_n65 r_c66, .slice r_a67 r_n68 r_c69, .slice r_a70 r_n71 r_c72] ∧ RNew L w (.tuple #[.agg #[.slice r_a64 r_n65 r_c66, .slice r_a67 r_n68 r_c69, .slice r_a70 r_n71 r_c72], .int .i64 0]) w62) := by
      intro w' b c x y m o hx hy hxy sx sy sb
      refine PutAll.use (h5.mod m (by simp)) rfl fun w3 h3 m3 => ⟨_, _, _, _, _, _, _, _, _, h3.cells, (MM.none m).trans m3 (fun y hy => .inr (by simp only [List.mem_singleton] at hy; omega)), .inr ⟨hE, b, c, x, y, rfl, o.mod m3 (fun q hq hq' => ?_), hx.mod m3 ?_, hy.mod m3 ?_, hxy, by omega, by omega, fun q hq => by have := sb q hq; omega⟩⟩
      · have := sb q hq
        simp only [List.mem_singleton] at hq'
        omega
      · simp only [List.mem_singleton]; omega
      · simp only [List.mem_singleton]; omega
    refine ⟨?_, ?_, ?_⟩
    · refine New.use fun v1 h1 m1 z1 => ?_
      have M1 := M0.none m1
      have s1 : w0.heap.size ≤ w0.heap.size := M0.size
      refine ⟨?_, ?_, ?_⟩
      · obtain ⟨a2, c2, v2, r2, o2, m2, f2⟩ := append_own (d := l_c) Try.underlying22 elem35 22 (Own.blk (n := 0) h1 rfl (by decide)) (hr.mod M1 (by simp)) (m := L.length) (chc_flen L) (chc_one L) (by omega) (by omega)
        rw [Nat.zero_add] at r2 o2
        rw [List.nil_append] at o2
        refine ⟨_, _, _, v2, r2, ?_⟩
        have M2 := M1.trans m2 (fun y hy => .inr (by simp [fp, base] at hy; omega))
        have s2 : w0.heap.size ≤ v1.heap.size := M1.size
        have g2 : ∀ y ∈ fp a2, w0.heap.size ≤ y := fun y hy => by rcases f2 with f | f <;> rw [f] at hy <;> simp [fp, base] at hy <;> omega
        refine ⟨?_, ?_⟩
        · obtain ⟨v3, r3, h3, m3, z3⟩ := make_one (P := Try.prog) (t := 28) (e := 3) (bytes := 8) (zv := .int .i64 0) Try.underlying28 (by kernel_rfl) rfl v2 L.length (by omega) (by omega)
          refine ⟨_, _, _, v3, r3, ?_⟩
          have M3 := M2.none m3
          have s3 : w0.heap.size ≤ v2.heap.size := M2.size
          have o3 := o2.mod m3 (by simp)
          obtain ⟨v4, r4, h4, m4, z4⟩ := make_one (P := Try.prog) (t := 28) (e := 3) (bytes := 8) (zv := .int .i64 0) Try.underlying28 (by kernel_rfl) rfl v3 L.length (by omega) (by omega)
          refine ⟨_, _, _, v4, r4, ?_⟩
          have M4 := M3.none m4
          have s4 : w0.heap.size ≤ v3.heap.size := M3.size
          have x4_0 := h3.mod m4 (by simp)
          have l4_0 := h3.lt
          have o4 := o3.mod m4 (by simp)
          first | exact fin _ _ _ _ _ M4 o4 x4_0 h4 (by omega) (by omega) (by omega) g2 | exact fin _ _ _ _ _ M4 o4 h4 x4_0 (by omega) (by omega) (by omega) g2
        · obtain ⟨v5, r5, h5, m5, z5⟩ := make_one (P := Try.prog) (t := 28) (e := 3) (bytes := 8) (zv := .int .i64 0) Try.underlying28 (by kernel_rfl) rfl v2 L.length (by omega) (by omega)
          refine ⟨_, _, _, v5, r5, ?_⟩
          have M5 := M2.none m5
          have s5 : w0.heap.size ≤ v2.heap.size := M2.size
          have o5 := o2.mod m5 (by simp)
          obtain ⟨v6, r6, h6, m6, z6⟩ := make_one (P := Try.prog) (t := 28) (e := 3) (bytes := 8) (zv := .int .i64 0) Try.underlying28 (by kernel_rfl) rfl v5 L.length (by omega) (by omega)
          refine ⟨_, _, _, v6, r6, ?_⟩
          have M6 := M5.none m6
          have s6 : w0.heap.size ≤ v5.heap.size := M5.size
          have x6_0 := h5.mod m6 (by simp)
          have l6_0 := h5.lt
          have o6 := o5.mod m6 (by simp)
          first | exact fin _ _ _ _ _ M6 o6 x6_0 h6 (by omega) (by omega) (by omega) g2 | exact fin _ _ _ _ _ M6 o6 h6 x6_0 (by omega) (by omega) (by omega) g2
      · obtain ⟨v7, r7, h7, m7, z7⟩ := make_one (P := Try.prog) (t := 28) (e := 3) (bytes := 8) (zv := .int .i64 0) Try.underlying28 (by kernel_rfl) rfl v1 L.length (by omega) (by omega)
        refine ⟨_, _, _, v7, r7, ?_⟩
        have M7 := M1.none m7
        have s7 : w0.heap.size ≤ v1.heap.size := M1.size
        have p7 := h1.mod m7 (by simp)
        refine ⟨?_, ?_⟩
        · obtain ⟨a8, c8, v8, r8, o8, m8, f8⟩ := append_own (d := l_c) Try.underlying22 elem35 22 (Own.blk (n := 0) p7 rfl (by decide)) (hr.mod M7 (by simp)) (m := L.length) (chc_flen L) (chc_one L) (by omega) (by omega)
          rw [Nat.zero_add] at r8 o8
          rw [List.nil_append] at o8
          refine ⟨_, _, _, v8, r8, ?_⟩
          have M8 := M7.trans m8 (fun y hy => .inr (by simp [fp, base] at hy; omega))
          have s8 : w0.heap.size ≤ v7.heap.size := M7.size
          have g8 : ∀ y ∈ fp a8, w0.heap.size ≤ y := fun y hy => by rcases f8 with f | f <;> rw [f] at hy <;> simp [fp, base] at hy <;> omega
          have x8_0 := h7.mod m8 (by simp [fp, base]; exact Blk.ne h7 p7 (by decide))
          obtain ⟨v9, r9, h9, m9, z9⟩ := make_one (P := Try.prog) (t := 28) (e := 3) (bytes := 8) (zv := .int .i64 0) Try.underlying28 (by kernel_rfl) rfl v8 L.length (by omega) (by omega)
          refine ⟨_, _, _, v9, r9, ?_⟩
          have M9 := M8.none m9
          have s9 : w0.heap.size ≤ v8.heap.size := M8.size
          have x9_0 := x8_0.mod m9 (by simp)
          have l9_0 := x8_0.lt
          have o9 := o8.mod m9 (by simp)
          first | exact fin _ _ _ _ _ M9 o9 x9_0 h9 (by omega) (by omega) (by omega) g8 | exact fin _ _ _ _ _ M9 o9 h9 x9_0 (by omega) (by omega) (by omega) g8
        · obtain ⟨v10, r10, h10, m10, z10⟩ := make_one (P := Try.prog) (t := 28) (e := 3) (bytes := 8) (zv := .int .i64 0) Try.underlying28 (by kernel_rfl) rfl v7 L.length (by omega) (by omega)
          refine ⟨_, _, _, v10, r10, ?_⟩
          have M10 := M7.none m10
          have s10 : w0.heap.size ≤ v7.heap.size := M7.size
          have x10_0 := h7.mod m10 (by simp)
          have l10_0 := h7.lt
          have p10 := p7.mod m10 (by simp)
          obtain ⟨a11, c11, v11, r11, o11, m11, f11⟩ := append_own (d := l_c) Try.underlying22 elem35 22 (Own.blk (n := 0) p10 rfl (by decide)) (hr.mod M10 (by simp)) (m := L.length) (chc_flen L) (chc_one L) (by omega) (by omega)
          rw [Nat.zero_add] at r11 o11
          rw [List.nil_append] at o11
          refine ⟨_, _, _, v11, r11, ?_⟩
          have M11 := M10.trans m11 (fun y hy => .inr (by simp [fp, base] at hy; omega))
          have s11 : w0.heap.size ≤ v10.heap.size := M10.size
          have g11 : ∀ y ∈ fp a11, w0.heap.size ≤ y := fun y hy => by rcases f11 with f | f <;> rw [f] at hy <;> simp [fp, base] at hy <;> omega
          have x11_0 := x10_0.mod m11 (by simp [fp, base]; exact Blk.ne x10_0 p10 (by decide))
          have x11_1 := h10.mod m11 (by simp [fp, base]; exact Blk.ne h10 p10 (by decide))
          first | exact fin _ _ _ _ _ M11 o11 x11_0 x11_1 (by omega) (by omega) (by omega) g11 | exact fin _ _ _ _ _ M11 o11 x11_1 x11_0 (by omega) (by omega) (by omega) g11
      · obtain ⟨v12, r12, h12, m12, z12⟩ := make_one (P := Try.prog) (t := 28) (e := 3) (bytes := 8) (zv := .int .i64 0) Try.underlying28 (by kernel_rfl) rfl v1 L.length (by omega) (by omega)
        refine ⟨_, _, _, v12, r12, ?_⟩
        have M12 := M1.none m12
        have s12 : w0.heap.size ≤ v1.heap.size := M1.size
        have p12 := h1.mod m12 (by simp)
        refine ⟨?_, ?_⟩
        · obtain ⟨a13, c13, v13, r13, o13, m13, f13⟩ := append_own (d := l_c) Try.underlying22 elem35 22 (Own.blk (n := 0) p12 rfl (by decide)) (hr.mod M12 (by simp)) (m := L.length) (chc_flen L) (chc_one L) (by omega) (by omega)
          rw [Nat.zero_add] at r13 o13
          rw [List.nil_append] at o13
          refine ⟨_, _, _, v13, r13, ?_⟩
          have M13 := M12.trans m13 (fun y hy => .inr (by simp [fp, base] at hy; omega))
          have s13 : w0.heap.size ≤ v12.heap.size := M12.size
          have g13 : ∀ y ∈ fp a13, w0.heap.size ≤ y := fun y hy => by rcases f13 with f | f <;> rw [f] at hy <;> simp [fp, base] at hy <;> omega
          have x13_0 := h12.mod m13 (by simp [fp, base]; exact Blk.ne h12 p12 (by decide))
          obtain ⟨v14, r14, h14, m14, z14⟩ := make_one (P := Try.prog) (t := 28) (e := 3) (bytes := 8) (zv := .int .i64 0) Try.underlying28 (by kernel_rfl) rfl v13 L.length (by omega) (by omega)
          refine ⟨_, _, _, v14, r14, ?_⟩
          have M14 := M13.none m14
          have s14 : w0.heap.size ≤ v13.heap.size := M13.size
          have x14_0 := x13_0.mod m14 (by simp)
          have l14_0 := x13_0.lt
          have o14 := o13.mod m14 (by simp)
          first | exact fin _ _ _ _ _ M14 o14 x14_0 h14 (by omega) (by omega) (by omega) g13 | exact fin _ _ _ _ _ M14 o14 h14 x14_0 (by omega) (by omega) (by omega) g13
        · obtain ⟨v15, r15, h15, m15, z15⟩ := make_one (P := Try.prog) (t := 28) (e := 3) (bytes := 8) (zv := .int .i64 0) Try.underlying28 (by kernel_rfl) rfl v12 L.length (by omega) (by omega)
          refine ⟨_, _, _, v15, r15, ?_⟩
          have M15 := M12.none m15
          have s15 : w0.heap.size ≤ v12.heap.size := M12.size
          have x15_0 := h12.mod m15 (by simp)
          have l15_0 := h12.lt
          have p15 := p12.mod m15 (by simp)
          obtain ⟨a16, c16, v16, r16, o16, m16, f16⟩ := append_own (d := l_c) Try.underlying22 elem35 22 (Own.blk (n := 0) p15 rfl (by decide)) (hr.mod M15 (by simp)) (m := L.length) (chc_flen L) (chc_one L) (by omega) (by omega)
          rw [Nat.zero_add] at r16 o16
          rw [List.nil_append] at o16
          refine ⟨_, _, _, v16, r16, ?_⟩
          have M16 := M15.trans m16 (fun y hy => .inr (by simp [fp, base] at hy; omega))
          have s16 : w0.heap.size ≤ v15.heap.size := M15.size
          have g16 : ∀ y ∈ fp a16, w0.heap.size ≤ y := fun y hy => by rcases f16 with f | f <;> rw [f] at hy <;> simp [fp, base] at hy <;> omega
          have x16_0 := x15_0.mod m16 (by simp [fp, base]; exact Blk.ne x15_0 p15 (by decide))
          have x16_1 := h15.mod m16 (by simp [fp, base]; exact Blk.ne h15 p15 (by decide))
          first | exact fin _ _ _ _ _ M16 o16 x16_0 x16_1 (by omega) (by omega) (by omega) g16 | exact fin _ _ _ _ _ M16 o16 x16_1 x16_0 (by omega) (by omega) (by omega) g16
    · obtain ⟨v17, r17, h17, m17, z17⟩ := make_one (P := Try.prog) (t := 28) (e := 3) (bytes := 8) (zv := .int .i64 0) Try.underlying28 (by kernel_rfl) rfl w0 L.length (by omega) (by omega)
      refine ⟨_, _, _, v17, r17, ?_⟩
      have M17 := M0.none m17
      have s17 : w0.heap.size ≤ w0.heap.size := M0.size
      refine ⟨?_, ?_⟩
      · refine New.use fun v18 h18 m18 z18 => ?_
        have M18 := M17.none m18
        have s18 : w0.heap.size ≤ v17.heap.size := M17.size
        have x18_0 := h17.mod m18 (by simp)
        refine ⟨?_, ?_⟩
        · obtain ⟨a19, c19, v19, r19, o19, m19, f19⟩ := append_own (d := l_c) Try.underlying22 elem35 22 (Own.blk (n := 0) h18 rfl (by decide)) (hr.mod M18 (by simp)) (m := L.length) (chc_flen L) (chc_one L) (by omega) (by omega)
          rw [Nat.zero_add] at r19 o19
          rw [List.nil_append] at o19
          refine ⟨_, _, _, v19, r19, ?_⟩
          have M19 := M18.trans m19 (fun y hy => .inr (by simp [fp, base] at hy; omega))
          have s19 : w0.heap.size ≤ v18.heap.size := M18.size
          have g19 : ∀ y ∈ fp a19, w0.heap.size ≤ y := fun y hy => by rcases f19 with f | f <;> rw [f] at hy <;> simp [fp, base] at hy <;> omega
          have x19_0 := x18_0.mod m19 (by simp [fp, base]; exact Blk.ne x18_0 h18 (by decide))
          obtain ⟨v20, r20, h20, m20, z20⟩ := make_one (P := Try.prog) (t := 28) (e := 3) (bytes := 8) (zv := .int .i64 0) Try.underlying28 (by kernel_rfl) rfl v19 L.length (by omega) (by omega)
          refine ⟨_, _, _, v20, r20, ?_⟩
          have M20 := M19.none m20
          have s20 : w0.heap.size ≤ v19.heap.size := M19.size
          have x20_0 := x19_0.mod m20 (by simp)
          have l20_0 := x19_0.lt
          have o20 := o19.mod m20 (by simp)
          first | exact fin _ _ _ _ _ M20 o20 x20_0 h20 (by omega) (by omega) (by omega) g19 | exact fin _ _ _ _ _ M20 o20 h20 x20_0 (by omega) (by omega) (by omega) g19
        · obtain ⟨v21, r21, h21, m21, z21⟩ := make_one (P := Try.prog) (t := 28) (e := 3) (bytes := 8) (zv := .int .i64 0) Try.underlying28 (by kernel_rfl) rfl v18 L.length (by omega) (by omega)
          refine ⟨_, _, _, v21, r21, ?_⟩
          have M21 := M18.none m21
          have s21 : w0.heap.size ≤ v18.heap.size := M18.size
          have x21_0 := x18_0.mod m21 (by simp)
          have l21_0 := x18_0.lt
          have p21 := h18.mod m21 (by simp)
          obtain ⟨a22, c22, v22, r22, o22, m22, f22⟩ := append_own (d := l_c) Try.underlying22 elem35 22 (Own.blk (n := 0) p21 rfl (by decide)) (hr.mod M21 (by simp)) (m := L.length) (chc_flen L) (chc_one L) (by omega) (by omega)
          rw [Nat.zero_add] at r22 o22
          rw [List.nil_append] at o22
          refine ⟨_, _, _, v22, r22, ?_⟩
          have M22 := M21.trans m22 (fun y hy => .inr (by simp [fp, base] at hy; omega))
          have s22 : w0.heap.size ≤ v21.heap.size := M21.size
          have g22 : ∀ y ∈ fp a22, w0.heap.size ≤ y := fun y hy => by rcases f22 with f | f <;> rw [f] at hy <;> simp [fp, base] at hy <;> omega
          have x22_0 := x21_0.mod m22 (by simp [fp, base]; exact Blk.ne x21_0 p21 (by decide))
          have x22_1 := h21.mod m22 (by simp [fp, base]; exact Blk.ne h21 p21 (by decide))
          first | exact fin _ _ _ _ _ M22 o22 x22_0 x22_1 (by omega) (by omega) (by omega) g22 | exact fin _ _ _ _ _ M22 o22 x22_1 x22_0 (by omega) (by omega) (by omega) g22
      · obtain ⟨v23, r23, h23, m23, z23⟩ := make_one (P := Try.prog) (t := 28) (e := 3) (bytes := 8) (zv := .int .i64 0) Try.underlying28 (by kernel_rfl) rfl v17 L.length (by omega) (by omega)
        refine ⟨_, _, _, v23, r23, ?_⟩
        have M23 := M17.none m23
        have s23 : w0.heap.size ≤ v17.heap.size := M17.size
        have x23_0 := h17.mod m23 (by simp)
        have l23_0 := h17.lt
        refine New.use fun v24 h24 m24 z24 => ?_
        have M24 := M23.none m24
        have s24 : w0.heap.size ≤ v23.heap.size := M23.size
        have x24_0 := x23_0.mod m24 (by simp)
        have x24_1 := h23.mod m24 (by simp)
        obtain ⟨a25, c25, v25, r25, o25, m25, f25⟩ := append_own (d := l_c) Try.underlying22 elem35 22 (Own.blk (n := 0) h24 rfl (by decide)) (hr.mod M24 (by simp)) (m := L.length) (chc_flen L) (chc_one L) (by omega) (by omega)
        rw [Nat.zero_add] at r25 o25
        rw [List.nil_append] at o25
        refine ⟨_, _, _, v25, r25, ?_⟩
        have M25 := M24.trans m25 (fun y hy => .inr (by simp [fp, base] at hy; omega))
        have s25 : w0.heap.size ≤ v24.heap.size := M24.size
        have g25 : ∀ y ∈ fp a25, w0.heap.size ≤ y := fun y hy => by rcases f25 with f | f <;> rw [f] at hy <;> simp [fp, base] at hy <;> omega
        have x25_0 := x24_0.mod m25 (by simp [fp, base]; exact Blk.ne x24_0 h24 (by decide))
        have x25_1 := x24_1.mod m25 (by simp [fp, base]; exact Blk.ne x24_1 h24 (by decide))
        first | exact fin _ _ _ _ _ M25 o25 x25_0 x25_1 (by omega) (by omega) (by omega) g25 | exact fin _ _ _ _ _ M25 o25 x25_1 x25_0 (by omega) (by omega) (by omega) g25
    · obtain ⟨v26, r26, h26, m26, z26⟩ := make_one (P := Try.prog) (t := 28) (e := 3) (bytes := 8) (zv := .int .i64 0) Try.underlying28 (by kernel_rfl) rfl w0 L.length (by omega) (by omega)
      refine ⟨_, _, _, v26, r26, ?_⟩
      have M26 := M0.none m26
      have s26 : w0.heap.size ≤ w0.heap.size := M0.size
      refine ⟨?_, ?_⟩
      · refine New.use fun v27 h27 m27 z27 => ?_
        have M27 := M26.none m27
        have s27 : w0.heap.size ≤ v26.heap.size := M26.size
        have x27_0 := h26.mod m27 (by simp)
        refine ⟨?_, ?_⟩
        · obtain ⟨a28, c28, v28, r28, o28, m28, f28⟩ := append_own (d := l_c) Try.underlying22 elem35 22 (Own.blk (n := 0) h27 rfl (by decide)) (hr.mod M27 (by simp)) (m := L.length) (chc_flen L) (chc_one L) (by omega) (by omega)
          rw [Nat.zero_add] at r28 o28
          rw [List.nil_append] at o28
          refine ⟨_, _, _, v28, r28, ?_⟩
          have M28 := M27.trans m28 (fun y hy => .inr (by simp [fp, base] at hy; omega))
          have s28 : w0.heap.size ≤ v27.heap.size := M27.size
          have g28 : ∀ y ∈ fp a28, w0.heap.size ≤ y := fun y hy => by rcases f28 with f | f <;> rw [f] at hy <;> simp [fp, base] at hy <;> omega
          have x28_0 := x27_0.mod m28 (by simp [fp, base]; exact Blk.ne x27_0 h27 (by decide))
          obtain ⟨v29, r29, h29, m29, z29⟩ := make_one (P := Try.prog) (t := 28) (e := 3) (bytes := 8) (zv := .int .i64 0) Try.underlying28 (by kernel_rfl) rfl v28 L.length (by omega) (by omega)
          refine ⟨_, _, _, v29, r29, ?_⟩
          have M29 := M28.none m29
          have s29 : w0.heap.size ≤ v28.heap.size := M28.size
          have x29_0 := x28_0.mod m29 (by simp)
          have l29_0 := x28_0.lt
          have o29 := o28.mod m29 (by simp)
          first | exact fin _ _ _ _ _ M29 o29 x29_0 h29 (by omega) (by omega) (by omega) g28 | exact fin _ _ _ _ _ M29 o29 h29 x29_0 (by omega) (by omega) (by omega) g28
        · obtain ⟨v30, r30, h30, m30, z30⟩ := make_one (P := Try.prog) (t := 28) (e := 3) (bytes := 8) (zv := .int .i64 0) Try.underlying28 (by kernel_rfl) rfl v27 L.length (by omega) (by omega)
          refine ⟨_, _, _, v30, r30, ?_⟩
          have M30 := M27.none m30
          have s30 : w0.heap.size ≤ v27.heap.size := M27.size
          have x30_0 := x27_0.mod m30 (by simp)
          have l30_0 := x27_0.lt
          have p30 := h27.mod m30 (by simp)
          obtain ⟨a31, c31, v31, r31, o31, m31, f31⟩ := append_own (d := l_c) Try.underlying22 elem35 22 (Own.blk (n := 0) p30 rfl (by decide)) (hr.mod M30 (by simp)) (m := L.length) (chc_flen L) (chc_one L) (by omega) (by omega)
          rw [Nat.zero_add] at r31 o31
          rw [List.nil_append] at o31
          refine ⟨_, _, _, v31, r31, ?_⟩
          have M31 := M30.trans m31 (fun y hy => .inr (by simp [fp, base] at hy; omega))
          have s31 : w0.heap.size ≤ v30.heap.size := M30.size
          have g31 : ∀ y ∈ fp a31, w0.heap.size ≤ y := fun y hy => by rcases f31 with f | f <;> rw [f] at hy <;> simp [fp, base] at hy <;> omega
          have x31_0 := x30_0.mod m31 (by simp [fp, base]; exact Blk.ne x30_0 p30 (by decide))
          have x31_1 := h30.mod m31 (by simp [fp, base]; exact Blk.ne h30 p30 (by decide))
          first | exact fin _ _ _ _ _ M31 o31 x31_0 x31_1 (by omega) (by omega) (by omega) g31 | exact fin _ _ _ _ _ M31 o31 x31_1 x31_0 (by omega) (by omega) (by omega) g31
      · obtain ⟨v32, r32, h32, m32, z32⟩ := make_one (P := Try.prog) (t := 28) (e := 3) (bytes := 8) (zv := .int .i64 0) Try.underlying28 (by kernel_rfl) rfl v26 L.length (by omega) (by omega)
        refine ⟨_, _, _, v32, r32, ?_⟩
        have M32 := M26.none m32
        have s32 : w0.heap.size ≤ v26.heap.size := M26.size
        have x32_0 := h26.mod m32 (by simp)
        have l32_0 := h26.lt
        refine New.use fun v33 h33 m33 z33 => ?_
        have M33 := M32.none m33
        have s33 : w0.heap.size ≤ v32.heap.size := M32.size
        have x33_0 := x32_0.mod m33 (by simp)
        have x33_1 := h32.mod m33 (by simp)
        obtain ⟨a34, c34, v34, r34, o34, m34, f34⟩ := append_own (d := l_c) Try.underlying22 elem35 22 (Own.blk (n := 0) h33 rfl (by decide)) (hr.mod M33 (by simp)) (m := L.length) (chc_flen L) (chc_one L) (by omega) (by omega)
        rw [Nat.zero_add] at r34 o34
        rw [List.nil_append] at o34
        refine ⟨_, _, _, v34, r34, ?_⟩
        have M34 := M33.trans m34 (fun y hy => .inr (by simp [fp, base] at hy; omega))
        have s34 : w0.heap.size ≤ v33.heap.size := M33.size
        have g34 : ∀ y ∈ fp a34, w0.heap.size ≤ y := fun y hy => by rcases f34 with f | f <;> rw [f] at hy <;> simp [fp, base] at hy <;> omega
        have x34_0 := x33_0.mod m34 (by simp [fp, base]; exact Blk.ne x33_0 h33 (by decide))
        have x34_1 := x33_1.mod m34 (by simp [fp, base]; exact Blk.ne x33_1 h33 (by decide))
        first | exact fin _ _ _ _ _ M34 o34 x34_0 x34_1 (by omega) (by omega) (by omega) g34 | exact fin _ _ _ _ _ M34 o34 x34_1 x34_0 (by omega) (by omega) (by omega) g34
end Go.Proofs.Ytjjhghcaecodpaa
