/-
  The contracts of chapter 8: the reference's queue; the lists of items.
-/
import Derived.Test.YtcfppdbinkoobaaQueue
namespace Go.Proofs.Ytcfppdbinkoobaa
open Go Go.Sh Go.Proofs
set_option linter.unusedVariables false
set_option linter.unusedSimpArgs false
set_option linter.unusedSectionVars false

theorem fpv_sub {a : Option Addr} {vs : List Value} : ∀ x ∈ fpv a vs, x ∈ fp a := by
  cases vs with
  | nil => intro x hx; cases hx
  | cons v vs => intro x hx; exact hx
theorem elem66 : Elem Try.prog 66 2 16 := Elem.of (v := .agg #[.int .i64 0, .int .i64 0]) (by kernel_rfl) rfl (by decide)
abbrev Qs.val (s : Qs) (a : Option Addr) (c : Nat) : Value := .agg #[.int .i64 s.most, .slice a s.l.length c]
abbrev Qs.cells (s : Qs) (a : Option Addr) (c : Nat) : List Value := [.int .i64 s.most, .slice a s.l.length c]

section
variable {w : World} {s : Qs} {a : Option Addr} {c : Nat} (hr : Rd w a (s.l.flatMap ev)) (hc : s.l.length ≤ c) (hg : s.good)
include hr hc hg
theorem find_ok (i : Int) : Does Try.prog 29 #[s.val a c, .int .i64 i] w fun v w' => v = .int .i64 (idxV (isIt i) s.l) ∧ Mod [] w w' := by
  have hgl := hg.2
  apply w29
  unfold F29
  refine New.use fun w1 h1 m1 z1 => ?_
  have hr1 := hr.mod m1 (by simp)
  refine idx_loop (l := s.l) (by omega) hr1 (isIt i) ?_
  intro j w2 nx hj m2 hnx hbef
  unfold F29_b1
  have h2 := h1.mod m2 (by simp)
  refine ⟨_, _, _, h2.cell (i := 1) rfl, iteI (fun hlt => ?_) (fun hlt => ?_)⟩
  · have hlt : j < s.l.length := by omega
    obtain ⟨p, rfl, hcc⟩ := (hr1.mod m2 (by simp)).flat (ev_len _) (by decide) hlt
    refine ⟨_, _, _, h2.cell (i := 1) rfl, p, rfl, by omega, by omega, _, hcc 1 _ rfl, iteI (fun hp => ?_) (fun hp => ?_)⟩
    · have e := fidx_at (isIt i) s.l j hlt (by simpa [isIt] using hp) (fun k hk => hbef k hk (by omega))
      unfold idxV
      rw [e, if_pos hlt]
      exact ⟨rfl, m1.none m2⟩
    · rw [wi64 (by omega)]
      exact hnx w2 m2 hlt (by simpa [isIt] using hp)
  · have hjl : j = s.l.length := by omega
    subst hjl
    have e := fidx_none (isIt i) s.l (fun k hk => hbef k hk hk)
    unfold idxV
    rw [e, if_neg (by omega)]
    exact ⟨rfl, m1.none m2⟩
theorem refPeek_ok : Does Try.prog 22 #[s.val a c] w fun v w' => v = .tuple #[.int .i64 s.peek.1, .bool s.peek.2] ∧ Mod [] w w' := by
  apply w22
  unfold F22
  refine New.use fun w1 h1 m1 z1 => ?_
  refine ⟨_, _, _, h1.cell (i := 1) rfl, ?_⟩
  unfold Qs.peek
  match hl : s.l with
  | [] => rw [if_pos (by simp)]; exact ⟨rfl, m1⟩
  | x :: r =>
    rw [hl] at hr h1
    rw [if_neg (by simp; omega)]
    obtain ⟨p, rfl, hcc⟩ := (hr.mod m1 (by simp)).flat (ev_len _) (by decide) (i := 0) (by simp)
    exact ⟨_, _, _, h1.cell (i := 1) rfl, p, rfl, by omega, by simp, _, hcc 1 _ rfl, rfl, m1⟩
end

/-- What a call of the reference returns: the queue, and more. -/
def RefQ (w : World) (a : Option Addr) (l0 : List Qe) (s : Qs) (mk : Value → Value) (v : Value) (w' : World) : Prop :=
  ∃ a' c', v = mk (s.val a' c') ∧ Rd w' a' (s.l.flatMap ev) ∧ s.l.length ≤ c' ∧ Mod [] w w' ∧ ∀ y ∈ fpv a' (s.l.flatMap ev), y ∈ fpv a (l0.flatMap ev) ∨ w.heap.size ≤ y
theorem retQ {w : World} {g t : Nat} {vs : List Value} {k : Value → World → Prop} {mk : Value → Value} (s : Qs) (x : Option Addr) (c : Nat) (hb : Blk w g t vs) (hl : vs.length = 2) (hk : ∀ w', Mod [g] w w' → k (mk (s.val x c)) w') :
    PutAll w (base g) (s.cells x c) (fun w8 => ∃ (r : Int) (ra : Option Addr) (rn rc : Nat), Cells w8 (base g) 0 [.int .i64 r, .slice ra rn rc] ∧ k (mk (.agg #[.int .i64 r, .slice ra rn rc])) w8) :=
  PutAll.use hb (by simp [hl]) fun w' hb' m' => ⟨_, _, _, _, hb'.cells, hk w' m'⟩

theorem refNew_ok (most : Int) (w : World) : Does Try.prog 16 #[.int .i64 most] w fun v w' => v = (q0 most).val none 0 ∧ Mod [] w w' := by
  apply w16
  unfold F16
  exact New.put rfl fun w1 h1 m1 z1 => ⟨_, _, _, _, h1.cells, rfl, m1⟩

theorem app66 {w : World} {x y : Option Addr} {k c : Nat} {l m : List Qe} (ho : Own w 66 2 x l.length k (l.flatMap ev)) (hr : Rd w y (m.flatMap ev)) (hl : l.length + m.length ≤ 100000) :
    ∃ a' c' w', (Builtin.append_ #[38, 38] 38 #[.slice x l.length k, .slice y m.length c]).run Try.prog w = .ok (.slice a' (l ++ m).length c') w' ∧ Own w' 66 2 a' (l ++ m).length c' ((l ++ m).flatMap ev) ∧ Mod (fp x) w w' ∧ ∀ q ∈ fp a', q ∈ fp x ∨ w.heap.size ≤ q := by
  obtain ⟨a', c', w', h1, h2, h3, h4⟩ := append_own (d := c) Try.underlying38 elem66 38 ho hr (m := m.length) (ev_flen m) (ev_one _) (by omega) (by omega)
  rw [← List.flatMap_append] at h2
  rw [List.length_append]
  exact ⟨a', c', w', h1, h2, h3, fun q hq => by rcases h4 with h | h <;> rw [h] at hq; exact .inl hq; right; simp at hq; omega⟩

theorem refPush_ok {w : World} {s : Qs} {a : Option Addr} {c : Nat} (hr : Rd w a (s.l.flatMap ev)) (hc : s.l.length ≤ c) (hg : s.good) (p i : Int) :
    Does Try.prog 17 #[s.val a c, .int .i64 p, .int .i64 i] w (RefQ w a s.l (s.push p i).2 fun x => .tuple #[x, .int .i64 (s.push p i).1]) := by
  have hgl := hg.2
  apply w17
  unfold F17
  refine New.use fun w1 h1 m1 z1 => ?_
  refine New.use fun w2 h2 m2 z2 => ?_
  have M2 := m1.none m2
  refine ⟨_, _, _, _, (h1.mod m2 (by simp)).cells, ?_⟩
  refine (find_ok (hr.mod M2 (by simp)) hc hg i).mono ?_
  rintro _ w3 ⟨rfl, m3⟩
  have M3 := M2.none m3
  have h13 := (h1.mod m2 (by simp)).mod m3 (by simp)
  have h23 := h2.mod m3 (by simp)
  have z3 := M3.size
  have hr3 := hr.mod M3 (by simp)
  have hw1 : w1.heap.size ≠ w.heap.size := by omega
  refine ⟨_, rfl, ?_⟩
  unfold Qs.push idxV
  by_cases hf : fidx (isIt i) s.l < s.l.length
  · rw [if_pos hf, if_pos hf, if_pos (by omega)]
    refine ⟨_, _, _, _, h13.cells, retQ (mk := fun x => .tuple #[x, .int .i64 9]) s a c h23 rfl fun w4 m4 => ?_⟩
    exact ⟨a, c, rfl, hr3.modv m4 (fun y hy hy' => by have := hr.lt _ hy; simp at hy'; omega), hc, M3.trans m4 (fun y hy => .inr (by simp at hy; omega)), fun y hy => .inl hy⟩
  rw [if_neg hf, if_neg hf, if_neg (by omega)]
  refine ⟨_, _, _, h13.cell (i := 1) rfl, _, h13.cell0, ?_⟩
  by_cases hfull : (s.l.length : Int) = s.most
  · rw [if_pos hfull, if_pos (by omega)]
    refine ⟨_, _, _, _, h13.cells, retQ (mk := fun x => .tuple #[x, .int .i64 7]) s a c h23 rfl fun w4 m4 => ?_⟩
    exact ⟨a, c, rfl, hr3.modv m4 (fun y hy hy' => by have := hr.lt _ hy; simp at hy'; omega), hc, M3.trans m4 (fun y hy => .inr (by simp at hy; omega)), fun y hy => .inl hy⟩
  rw [if_neg hfull, if_neg (by omega)]
  refine LoopP.of (fun (x : Int) w' => ∃ k : Nat, k ≤ s.l.length ∧ x = (k : Int) ∧ Mod [] w3 w' ∧ ∀ j (hj : j < k) (hjl : j < s.l.length), after p s.l[j] = false) (fun x _ => s.l.length - x.toNat) ⟨0, by omega, rfl, Mod.refl _, fun j hj => by omega⟩ ?_
  rintro _ w4 ⟨k, hk, rfl, m4, hb⟩
  unfold F17_b1
  have h14 := h13.mod m4 (by simp)
  have h24 := h23.mod m4 (by simp)
  have hr4 := hr3.mod m4 (by simp)
  have M4 := M3.none m4
  refine ⟨_, _, _, h14.cell (i := 1) rfl, iteI (fun hlt => ?_) (fun hlt => ?_)⟩
  · have hlt : k < s.l.length := by omega
    have hrc := hr4
    obtain ⟨q, ha, hcc⟩ := hr4.flat (ev_len _) (by decide) hlt
    refine ⟨_, _, _, h14.cell (i := 1) rfl, q, ha, by omega, by omega, _, by simpa [add_zero] using hcc 0 _ rfl, iteI (fun hp => ?_) (fun hp => ?_)⟩
    · rw [wi64 (by omega)]
      refine ⟨_, by omega, ⟨k + 1, by omega, rfl, m4, fun j hj hjl => ?_⟩, rfl⟩
      by_cases h : j = k
      · subst h; simpa [after] using hp
      · exact hb j (by omega) hjl
    · have hat : k = fidx (after p) s.l := (fidx_at (after p) s.l k hlt (by simp [after]; omega) (fun j hj => hb j hj (by omega))).symm
      subst hat
      clear hcc ha q hp
      all_goals (
        refine New.use fun w5 h5 m5 z5 => ?_
        have hk' := fidx_le (after p) s.l
        refine ⟨_, _, _, (h14.mod m5 (by simp)).cell (i := 1) rfl, by omega, by omega, ?_⟩
        have M5 := M4.none m5
        rw [Int.toNat_natCast]
        have htl : (s.l.take (fidx (after p) s.l)).length = fidx (after p) s.l := by rw [List.length_take]; omega
        have rt := ((hr.mod M5 (by simp)).take (fidx (after p) s.l * 2))
        rw [flat_take ev s.l (ev_len _)] at rt
        obtain ⟨a6, c6, w6, run6, o6, m6, f6⟩ := app66 (l := []) (c := c) (Own.blk (n := 0) h5 rfl (by decide)) rt (by simp; omega)
        rw [List.nil_append] at run6 o6
        rw [htl] at run6
        refine ⟨_, _, _, w6, run6, ?_⟩
        have f6' : ∀ y ∈ fp a6, w4.heap.size ≤ y := fun y hy => by rcases f6 y hy with h | h; (simp [fp, base] at h; omega); omega
        have M6 : Mod [] w4 w6 := m5.trans m6 (fun y hy => .inr (by simp [fp, base] at hy; omega))
        refine New.use fun w7 h7 m7 z7 => ?_
        have o7 := o6.mod m7 (by simp)
        obtain ⟨a8, c8, w8, run8, o8, m8, f8⟩ := app66 (l := s.l.take (fidx (after p) s.l)) (m := [(p, i)]) (c := 1) o7 (Rd.blk h7) (by simp; omega)
        rw [htl] at run8
        have M7 := M6.none m7
        have M8 : Mod [] w4 w8 := M7.trans m8 (fun y hy => .inr (f6' y hy))
        have z4 := M6.size
        have f8' : ∀ y ∈ fp a8, w4.heap.size ≤ y := fun y hy => by rcases f8 y hy with h | h; exact f6' y h; have := M7.size; omega
        refine ⟨_, _, _, w8, run8, _, _, _, (h14.mod M8 (by simp)).cell (i := 1) rfl, by omega, by omega, ?_⟩
        have rd := (hr.mod (M4.none M8) (by simp)).cut (c := c) (l := fidx (after p) s.l) (z := 2) (by rw [ev_flen]; omega)
        rw [flat_drop ev s.l (ev_len _)] at rd
        obtain ⟨a9, c9, w9, run9, o9, m9, f9⟩ := app66 (m := s.l.drop (fidx (after p) s.l)) (c := c - fidx (after p) s.l) o8 rd (by simp; omega)
        rw [List.length_drop] at run9
        have M9 : Mod [] w4 w9 := M8.trans m9 (fun y hy => .inr (f8' y hy))
        refine ⟨_, _, _, w9, run9, ?_⟩
        refine Put.use (h14.mod M9 (by simp)) (by simp) fun w10 h10 m10 => ?_
        have f9' : ∀ y ∈ fp a9, w4.heap.size ≤ y := fun y hy => by rcases f9 y hy with h | h; exact f8' y h; have := M8.size; omega
        have hz4 := M4.size
        have l14 := h14.lt
        have l24 := h24.lt
        refine ⟨_, _, _, _, h10.cells, ?_⟩
        refine retQ (mk := fun x => .tuple #[x, .int .i64 0]) ⟨s.most, s.l.take (fidx (after p) s.l) ++ [(p, i)] ++ s.l.drop (fidx (after p) s.l)⟩ a9 c9 ((h24.mod M9 (by simp)).mod m10 (by simpa using hw1)) rfl fun w11 m11 => ?_
        exact ⟨a9, c9, rfl, (o9.rd.mod m10 (fun y hy hy' => by have := f9' y hy; simp at hy'; omega)).mod m11 (fun y hy hy' => by have := f9' y hy; simp at hy'; omega), o9.le, ((M4.none M9).trans m10 (fun y hy => .inr (by simp at hy; omega))).trans m11 (fun y hy => .inr (by simp at hy; omega)), fun y hy => .inr (by have := f9' y (fpv_sub y hy); omega)⟩)
  · have hkl : k = s.l.length := by omega
    have hat : k = fidx (after p) s.l := by rw [fidx_none (after p) s.l (fun j hj => hb j (by omega) hj)]; exact hkl
    subst hat
    all_goals (
        refine New.use fun w5 h5 m5 z5 => ?_
        have hk' := fidx_le (after p) s.l
        refine ⟨_, _, _, (h14.mod m5 (by simp)).cell (i := 1) rfl, by omega, by omega, ?_⟩
        have M5 := M4.none m5
        rw [Int.toNat_natCast]
        have htl : (s.l.take (fidx (after p) s.l)).length = fidx (after p) s.l := by rw [List.length_take]; omega
        have rt := ((hr.mod M5 (by simp)).take (fidx (after p) s.l * 2))
        rw [flat_take ev s.l (ev_len _)] at rt
        obtain ⟨a6, c6, w6, run6, o6, m6, f6⟩ := app66 (l := []) (c := c) (Own.blk (n := 0) h5 rfl (by decide)) rt (by simp; omega)
        rw [List.nil_append] at run6 o6
        rw [htl] at run6
        refine ⟨_, _, _, w6, run6, ?_⟩
        have f6' : ∀ y ∈ fp a6, w4.heap.size ≤ y := fun y hy => by rcases f6 y hy with h | h; (simp [fp, base] at h; omega); omega
        have M6 : Mod [] w4 w6 := m5.trans m6 (fun y hy => .inr (by simp [fp, base] at hy; omega))
        refine New.use fun w7 h7 m7 z7 => ?_
        have o7 := o6.mod m7 (by simp)
        obtain ⟨a8, c8, w8, run8, o8, m8, f8⟩ := app66 (l := s.l.take (fidx (after p) s.l)) (m := [(p, i)]) (c := 1) o7 (Rd.blk h7) (by simp; omega)
        rw [htl] at run8
        have M7 := M6.none m7
        have M8 : Mod [] w4 w8 := M7.trans m8 (fun y hy => .inr (f6' y hy))
        have z4 := M6.size
        have f8' : ∀ y ∈ fp a8, w4.heap.size ≤ y := fun y hy => by rcases f8 y hy with h | h; exact f6' y h; have := M7.size; omega
        refine ⟨_, _, _, w8, run8, _, _, _, (h14.mod M8 (by simp)).cell (i := 1) rfl, by omega, by omega, ?_⟩
        have rd := (hr.mod (M4.none M8) (by simp)).cut (c := c) (l := fidx (after p) s.l) (z := 2) (by rw [ev_flen]; omega)
        rw [flat_drop ev s.l (ev_len _)] at rd
        obtain ⟨a9, c9, w9, run9, o9, m9, f9⟩ := app66 (m := s.l.drop (fidx (after p) s.l)) (c := c - fidx (after p) s.l) o8 rd (by simp; omega)
        rw [List.length_drop] at run9
        have M9 : Mod [] w4 w9 := M8.trans m9 (fun y hy => .inr (f8' y hy))
        refine ⟨_, _, _, w9, run9, ?_⟩
        refine Put.use (h14.mod M9 (by simp)) (by simp) fun w10 h10 m10 => ?_
        have f9' : ∀ y ∈ fp a9, w4.heap.size ≤ y := fun y hy => by rcases f9 y hy with h | h; exact f8' y h; have := M8.size; omega
        have hz4 := M4.size
        have l14 := h14.lt
        have l24 := h24.lt
        refine ⟨_, _, _, _, h10.cells, ?_⟩
        refine retQ (mk := fun x => .tuple #[x, .int .i64 0]) ⟨s.most, s.l.take (fidx (after p) s.l) ++ [(p, i)] ++ s.l.drop (fidx (after p) s.l)⟩ a9 c9 ((h24.mod M9 (by simp)).mod m10 (by simpa using hw1)) rfl fun w11 m11 => ?_
        exact ⟨a9, c9, rfl, (o9.rd.mod m10 (fun y hy hy' => by have := f9' y hy; simp at hy'; omega)).mod m11 (fun y hy hy' => by have := f9' y hy; simp at hy'; omega), o9.le, ((M4.none M9).trans m10 (fun y hy => .inr (by simp at hy; omega))).trans m11 (fun y hy => .inr (by simp at hy; omega)), fun y hy => .inr (by have := f9' y (fpv_sub y hy); omega)⟩)

theorem refRemove_ok {w : World} {s : Qs} {a : Option Addr} {c : Nat} (hr : Rd w a (s.l.flatMap ev)) (hc : s.l.length ≤ c) (hg : s.good) (i : Int) :
    Does Try.prog 19 #[s.val a c, .int .i64 i] w (RefQ w a s.l (s.remove i).2 fun x => .tuple #[x, .bool (s.remove i).1]) := by
  have hgl := hg.2
  apply w19
  unfold F19
  refine New.use fun w1 h1 m1 z1 => ?_
  refine New.use fun w2 h2 m2 z2 => ?_
  have M2 := m1.none m2
  refine ⟨_, _, _, _, (h1.mod m2 (by simp)).cells, ?_⟩
  refine (find_ok (hr.mod M2 (by simp)) hc hg i).mono ?_
  rintro _ w3 ⟨rfl, m3⟩
  have M3 := M2.none m3
  have h13 := (h1.mod m2 (by simp)).mod m3 (by simp)
  have h23 := h2.mod m3 (by simp)
  have z3 := M3.size
  have hr3 := hr.mod M3 (by simp)
  have hw1 : w1.heap.size ≠ w.heap.size := by omega
  refine ⟨_, rfl, ?_⟩
  unfold Qs.remove idxV
  by_cases hf : ¬ fidx (isIt i) s.l < s.l.length
  · rw [if_neg hf, if_neg hf, if_pos (by omega)]
    refine ⟨_, _, _, _, h13.cells, retQ (mk := fun x => .tuple #[x, .bool false]) s a c h23 rfl fun w4 m4 => ?_⟩
    exact ⟨a, c, rfl, hr3.modv m4 (fun y hy hy' => by have := hr.lt _ hy; simp at hy'; omega), hc, M3.trans m4 (fun y hy => .inr (by simp at hy; omega)), fun y hy => .inl hy⟩
  have hf : fidx (isIt i) s.l < s.l.length := by omega
  rw [if_pos hf, if_pos hf, if_neg (by omega)]
  have md := Mod.drew (S := []) w3
  have h14 := h13.mod md (by simp)
  have h24 := h23.mod md (by simp)
  have M4 := M3.none md
  have e4 : w3.drew.heap.size = w3.heap.size := rfl
  have e1 : IntKind.i64.wrap ((fidx (isIt i) s.l : Int) + 1) = ((fidx (isIt i) s.l + 1 : Nat) : Int) := by rw [wi64 (by omega)]; omega
  rw [e1]
  simp only [Int.toNat_natCast]
  refine ⟨_, _, _, h14.cell (i := 1) rfl, by omega, by omega, _, _, _, h14.cell (i := 1) rfl, by omega, by omega, ?_⟩
  generalize w3.drew = w4 at *
  refine New.use fun w5 h5 m5 z5 => ?_
  have c5 := (h14.mod m5 (by simp)).cell (i := 1) rfl
  have M5 := M4.none m5
  have htl : (s.l.take (fidx (isIt i) s.l)).length = fidx (isIt i) s.l := by rw [List.length_take]; omega
  have rt := ((hr.mod M5 (by simp)).take (fidx (isIt i) s.l * 2))
  rw [flat_take ev s.l (ev_len _)] at rt
  obtain ⟨a6, c6, w6, run6, o6, m6, f6⟩ := app66 (l := []) (c := c) (Own.blk (n := 0) h5 rfl (by decide)) rt (by simp; omega)
  rw [List.nil_append] at run6 o6
  rw [htl] at run6
  have f6' : ∀ y ∈ fp a6, w4.heap.size ≤ y := fun y hy => by rcases f6 y hy with h | h; (simp [fp, base] at h; omega); omega
  have M6 : Mod [] w4 w6 := m5.trans m6 (fun y hy => .inr (by simp [fp, base] at hy; omega))
  refine ⟨c5, c5, _, _, _, w6, run6, (h14.mod M6 (by simp)).cell (i := 1) rfl, ?_⟩
  have rd := (hr.mod (M4.none M6) (by simp)).cut (c := c) (l := fidx (isIt i) s.l + 1) (z := 2) (by rw [ev_flen]; omega)
  rw [flat_drop ev s.l (ev_len _)] at rd
  obtain ⟨a9, c9, w9, run9, o9, m9, f9⟩ := app66 (m := s.l.drop (fidx (isIt i) s.l + 1)) (c := c - (fidx (isIt i) s.l + 1)) o6 rd (by simp; omega)
  rw [List.length_drop, htl] at run9
  have M9 : Mod [] w4 w9 := M6.trans m9 (fun y hy => .inr (f6' y hy))
  refine ⟨_, _, _, w9, run9, ?_⟩
  refine Put.use (h14.mod M9 (by simp)) (by simp) fun w10 h10 m10 => ?_
  have z4 := M6.size
  have f9' : ∀ y ∈ fp a9, w4.heap.size ≤ y := fun y hy => by rcases f9 y hy with h | h; exact f6' y h; omega
  have hz4 := M4.size
  have l14 := h14.lt
  have l24 := h24.lt
  refine ⟨_, _, _, _, h10.cells, ?_⟩
  refine retQ (mk := fun x => .tuple #[x, .bool true]) ⟨s.most, s.l.take (fidx (isIt i) s.l) ++ s.l.drop (fidx (isIt i) s.l + 1)⟩ a9 c9 ((h24.mod M9 (by simp)).mod m10 (by simpa using hw1)) rfl fun w11 m11 => ?_
  exact ⟨a9, c9, rfl, (o9.rd.mod m10 (fun y hy hy' => by have := f9' y hy; simp at hy'; omega)).mod m11 (fun y hy hy' => by have := f9' y hy; simp at hy'; omega), o9.le, ((M4.none M9).trans m10 (fun y hy => .inr (by simp at hy; omega))).trans m11 (fun y hy => .inr (by simp at hy; omega)), fun y hy => .inr (by have := f9' y (fpv_sub y hy); omega)⟩

/-- Items are of different kinds in a queue. -/
def Qs.uniq (s : Qs) : Prop := ∀ i j (hi : i < s.l.length) (hj : j < s.l.length), s.l[i].2 = s.l[j].2 → i = j
theorem refPop_ok {w : World} {s : Qs} {a : Option Addr} {c : Nat} (hr : Rd w a (s.l.flatMap ev)) (hc : s.l.length ≤ c) (hg : s.good) :
    Does Try.prog 18 #[s.val a c] w (RefQ w a s.l s.pop fun x => .tuple #[x, .int .i64 s.peek.1, .bool s.peek.2]) := by
  apply w18
  unfold F18
  refine New.use fun w1 h1 m1 z1 => ?_
  refine New.use fun w2 h2 m2 z2 => ?_
  have M2 := m1.none m2
  have h12 := h1.mod m2 (by simp)
  refine ⟨_, _, _, _, h12.cells, ?_⟩
  refine (refPeek_ok (hr.mod M2 (by simp)) hc hg).mono ?_
  rintro _ w3 ⟨rfl, m3⟩
  have M3 := M2.none m3
  have h13 := h12.mod m3 (by simp)
  have h23 := h2.mod m3 (by simp)
  have z3 := M3.size
  have hw1 : w1.heap.size ≠ w.heap.size := by omega
  refine ⟨_, _, rfl, iteI (fun hp => ?_) (fun hp => ?_)⟩
  · refine ⟨_, _, _, _, h13.cells, ?_⟩
    refine (refRemove_ok (hr.mod M3 (by simp)) hc hg s.peek.1).mono ?_
    rintro _ w4 ⟨a4, c4, rfl, r4, hc4, m4, f4⟩
    have e : (s.remove s.peek.1).2 = s.pop := by
      obtain ⟨mo, l⟩ := s
      cases l with
      | nil => simp [Qs.peek] at hp
      | cons x r =>
        have hx : fidx (isIt x.2) (x :: r) = 0 := by show (if isIt x.2 x = true then 0 else _) = 0; rw [if_pos (by simp [isIt])]
        unfold Qs.remove Qs.pop Qs.peek
        simp [hx]
    rw [e] at r4 hc4 f4 ⊢
    refine ⟨_, _, _, _, _, rfl, ?_⟩
    refine PutAll.use (h13.mod m4 (by simp)) rfl fun w5 h5 m5 => ?_
    unfold F18_j1
    refine ⟨_, _, _, _, h5.cells, ?_⟩
    have l13 := h13.lt
    have l23 := h23.lt
    have z4 := m4.size
    have fa : ∀ y ∈ fpv a4 (s.pop.l.flatMap ev), y ≠ w.heap.size ∧ y ≠ w1.heap.size := by
      intro y hy
      rcases f4 y hy with h | h
      · have := hr.lt _ h
        omega
      · omega
    refine retQ (mk := fun x => .tuple #[x, .int .i64 s.peek.1, .bool s.peek.2]) s.pop a4 c4 (((h23.mod m4 (by simp)).mod m5 (by simpa using hw1))) rfl fun w6 m6 => ?_
    exact ⟨a4, c4, rfl, (r4.modv m5 (fun y hy hy' => by simp at hy'; exact (fa y hy).1 hy')).modv m6 (fun y hy hy' => by simp at hy'; exact (fa y hy).2 hy'), hc4, ((M3.none m4).trans m5 (fun y hy => .inr (by simp at hy; omega))).trans m6 (fun y hy => .inr (by simp at hy; omega)), fun y hy => by rcases f4 y hy with h | h; exact .inl h; right; omega⟩
  · have e : s.pop = s := by
      obtain ⟨mo, l⟩ := s
      cases l with
      | nil => rfl
      | cons x r => simp [Qs.peek] at hp
    unfold F18_j1
    refine ⟨_, _, _, _, h13.cells, ?_⟩
    rw [e]
    refine retQ (mk := fun x => .tuple #[x, .int .i64 s.peek.1, .bool s.peek.2]) s a c h23 rfl fun w6 m6 => ?_
    exact ⟨a, c, rfl, (hr.mod M3 (by simp)).modv m6 (fun y hy hy' => by have := hr.lt _ hy; simp at hy'; omega), hc, M3.trans m6 (fun y hy => .inr (by simp at hy; omega)), fun y hy => .inl hy⟩
end Go.Proofs.Ytcfppdbinkoobaa
