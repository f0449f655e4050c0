/-
  The contracts of chapter 33: the reference's pool.
-/
import Derived.Test.YtcdnljibefpchaaLists
namespace Go.Proofs.Ytcdnljibefpchaa
open Go Go.Sh Go.Proofs
set_option linter.unusedVariables false
set_option linter.unusedSimpArgs false
set_option linter.unusedSectionVars false

def rf (L : List Pd) (id : Int) : Int := if has L id = true then (fidx (isId id) L : Int) else -1
theorem rfind_ok {w : World} {a : Option Addr} {L : List Pd} (c : Nat) (id : Int) (hr : Rd w a (L.flatMap pv)) (hl : L.length ≤ 100000) : Does Try.prog 32 #[.slice a L.length c, .int .i64 id] w fun v w' => v = .int .i64 (rf L id) ∧ w = w' := by
  apply w32
  unfold F32
  refine LoopP.of (fun (x : Int) w' => ∃ i : Nat, i ≤ L.length ∧ x = (i : Int) ∧ w = w' ∧ ∀ j (hj : j < i) (hjl : j < L.length), isId id L[j] = false) (fun x _ => L.length - x.toNat) ⟨0, by omega, rfl, rfl, by omega⟩ ?_
  rintro _ _ ⟨i, hi, rfl, rfl, hb⟩
  unfold F32_b1
  refine iteI (fun hlt => ?_) (fun hlt => ?_)
  · have hlt : i < L.length := by omega
    obtain ⟨p, rfl, hc⟩ := hr.flat (pv_len _) (by decide) hlt
    refine ⟨p, rfl, by omega, by omega, _, by simpa [add_zero] using hc 0 _ rfl, iteI (fun h => ?_) (fun h => ?_)⟩
    · have e := fidx_at (isId id) L i hlt (by simp [isId, h]) (fun j hj => hb j hj (by omega))
      refine ⟨?_, rfl⟩
      unfold rf
      rw [if_pos (by unfold has; rw [e]; exact decide_eq_true hlt), e]
    · rw [wi64 (by omega)]
      refine ⟨_, by omega, ⟨i + 1, by omega, rfl, rfl, fun j hj hjl => ?_⟩, rfl⟩
      by_cases hji : j = i
      · subst hji; simp [isId, h]
      · exact hb j (by omega) hjl
  · have hiL : i = L.length := by omega
    subst hiL
    have e := fidx_none (isId id) L (fun j hj => hb j hj hj)
    refine ⟨?_, rfl⟩
    unfold rf
    rw [if_neg (by unfold has; rw [e]; simp)]
theorem known_ok {w : World} {a ax : Option Addr} {L : List Pd} {X : List Int} (c cx : Nat) (hr : Rd w a (L.flatMap pv)) (hx : Rd w ax (X.map iv)) (hl : L.length ≤ 100000) : Does Try.prog 31 #[.slice a L.length c, .slice ax X.length cx] w fun v w' => v = .int .i64 (chooseE L X) ∧ w = w' := by
  apply w31
  unfold F31
  refine iteI (fun h => ⟨by unfold chooseE; rw [if_pos (by omega)], rfl⟩) (fun h => ?_)
  refine LoopP.of (fun (x : Int) w' => ∃ i : Nat, i ≤ X.length ∧ x = (i : Int) ∧ w = w' ∧ ∀ j (hj : j < i) (hjl : j < X.length), has L X[j] = true) (fun x _ => X.length - x.toNat) ⟨0, by omega, rfl, rfl, by omega⟩ ?_
  rintro _ _ ⟨i, hi, rfl, rfl, hb⟩
  unfold F31_b1
  refine iteI (fun hlt => ?_) (fun hlt => ?_)
  · have hlt : i < X.length := by omega
    obtain ⟨p, rfl, hc⟩ := rd_get hx hlt
    refine ⟨p, rfl, by omega, by omega, _, hc, ?_⟩
    refine (rfind_ok c X[i] hr hl).mono ?_
    rintro _ _ ⟨rfl, rfl⟩
    refine ⟨_, rfl, ?_⟩
    unfold rf
    by_cases hh : has L X[i] = true
    · rw [if_pos hh, if_neg (by omega), wi64 (by omega)]
      refine ⟨_, by omega, ⟨i + 1, by omega, rfl, rfl, fun j hj hjl => ?_⟩, rfl⟩
      by_cases hji : j = i
      · subst hji; exact hh
      · exact hb j (by omega) hjl
    · rw [if_neg hh, if_pos (by omega)]
      exact ⟨by rw [chooseE_bad (L := L) (by omega) hlt (by simpa using hh)], rfl⟩
  · have hiX : i = X.length := by omega
    subst hiX
    exact ⟨by rw [chooseE_ok (L := L) (by omega) (fun j hj => hb j hj hj)], rfl⟩

theorem app43 {w : World} {y : Option Addr} {c : Nat} {m : List Pd} {q : Nat} (hq : Blk w q 43 []) (hr : Rd w y (m.flatMap pv)) (hl : m.length ≤ 100000) :
    ∃ a' c' w', (Builtin.append_ #[22, 22] 22 #[.slice (some (base q)) 0 0, .slice y m.length c]).run Try.prog w = .ok (.slice a' m.length c') w' ∧ Own w' 43 4 a' m.length c' (m.flatMap pv) ∧ Mod [q] w w' ∧ ∀ z ∈ fp a', z = q ∨ w.heap.size ≤ z := by
  obtain ⟨a', c', w', h1, h2, h3, h4⟩ := append_own (d := c) Try.underlying22 elem43 22 (Own.blk (n := 0) hq rfl (by decide)) hr (m := m.length) (pv_flen m) (pv_one _) (by omega) (by omega)
  rw [Nat.zero_add] at h1 h2
  rw [List.nil_append] at h2
  refine ⟨a', c', w', h1, h2, h3, fun z hz => ?_⟩
  rcases h4 with h | h <;> rw [h] at hz
  · left; simpa [fp, base] using hz
  · right; simp at hz; omega

theorem rnew_ok {w : World} {a : Option Addr} {L : List Pd} (c : Nat) (hr : Rd w a (L.flatMap pv)) : Does Try.prog 18 #[.slice a L.length c] w fun v w' => ∃ e x n d, v = .tuple #[.agg #[.slice x n d], .int .i64 e] ∧ ErrL L e ∧ Mod [] w w' ∧ (e = 0 → n = L.length ∧ Rd w' x (L.flatMap pv) ∧ Since w (fp x)) := by
  apply w18
  unfold F18
  refine New.use fun w1 h1 m1 z1 => ?_
  refine (check_ok c (hr.mod m1 (by simp))).mono ?_
  rintro _ w2 ⟨e, rfl, he, m2⟩
  have M2 := m1.none m2
  have h2 := h1.mod m2 (by simp)
  refine ⟨_, rfl, iteI (fun h => ?_) (fun h => ?_)⟩
  · exact PutAll.use h2 rfl fun w3 h3 m3 => ⟨_, _, _, h3.cells, _, _, _, _, rfl, he, M2.trans m3 (fun y hy => .inr (by simp at hy; omega)), fun h' => absurd h' h⟩
  · have h0 : e = 0 := Classical.byContradiction h
    subst h0
    have hg : Good L := by rcases he with ⟨_, h⟩ | ⟨h, _⟩ | ⟨h, _⟩; exact h; cases h; cases h
    have hgl := hg.len
    refine New.use fun w3 h3 m3 z3 => ?_
    have M3 := M2.none m3
    obtain ⟨a', c', w4, run, o4, m4, f4⟩ := app43 (c := c) h3 (hr.mod M3 (by simp)) (by omega)
    have z2 := M2.size
    have M4 : Mod [] w w4 := M3.trans m4 (fun y hy => .inr (by simp at hy; omega))
    have z12 := h2.lt
    have h14 := (h2.mod m3 (by simp)).mod m4 (by simp; omega)
    refine ⟨a', _, c', w4, run, PutAll.use h14 rfl fun w5 h5 m5 => ⟨_, _, _, h5.cells, _, _, _, _, rfl, he, M4.trans m5 (fun y hy => .inr (by simp at hy; omega)), fun _ => ⟨rfl, (o4.mod m5 (fun y hy hy' => by simp at hy'; rcases f4 y hy with h | h <;> omega)).rd, fun y hy => by rcases f4 y hy with h | h <;> omega⟩⟩⟩

section
variable {w : World} {a : Option Addr} {L : List Pd} (c : Nat) (hr : Rd w a (L.flatMap pv)) (hg : Good L)
include hr hg
theorem rget_ok (id : Int) : Does Try.prog 20 #[.agg #[.slice a L.length c], .int .i64 id] w fun v w' => Mod [] w w' ∧ v = (if h : fidx (isId id) L < L.length then .tuple #[.int .i64 L[fidx (isId id) L].2.2.2, .int .i64 0] else .tuple #[.int .i64 0, .int .i64 8]) := by
  have hgl := hg.len
  apply w20
  unfold F20
  refine New.use fun w1 h1 m1 z1 => ?_
  refine ⟨_, _, _, h1.cell0, ?_⟩
  refine (rfind_ok c id (hr.mod m1 (by simp)) (by omega)).mono ?_
  rintro _ _ ⟨rfl, rfl⟩
  refine ⟨_, rfl, ?_⟩
  unfold rf
  by_cases hh : has L id = true
  · have hlt := has_lt hh
    rw [if_pos hh, if_neg (by omega), dif_pos hlt]
    obtain ⟨p, rfl, hc⟩ := (hr.mod m1 (by simp)).flat (pv_len _) (by decide) hlt
    exact ⟨_, _, _, h1.cell0, p, rfl, by omega, by omega, _, hc 3 _ rfl, m1, rfl⟩
  · have hlt : ¬ fidx (isId id) L < L.length := fun h => hh (decide_eq_true h)
    rw [if_neg hh, if_pos (by omega), dif_neg hlt]
    exact ⟨m1, rfl⟩
/-- What Set of the reference returns. -/
def RefS (w : World) (a : Option Addr) (L0 L : List Pd) (e : Int) (v : Value) (w' : World) : Prop :=
  ∃ a' c', v = .tuple #[.agg #[.slice a' L.length c'], .int .i64 e] ∧ Rd w' a' (L.flatMap pv) ∧ Mod [] w w' ∧ ∀ y ∈ fpv a' (L.flatMap pv), y ∈ fpv a (L0.flatMap pv) ∨ w.heap.size ≤ y
omit hr hg in
theorem fpv_sub {a : Option Addr} {vs : List Value} : ∀ x ∈ fpv a vs, x ∈ fp a := by
  cases vs with
  | nil => intro x hx; cases hx
  | cons v vs => intro x hx; exact hx
theorem rset_ok (id v : Int) : Does Try.prog 19 #[.agg #[.slice a L.length c], .int .i64 id, .int .i64 v] w (RefS w a L (setL L id v) (setE L id v)) := by
  have hgl := hg.len
  apply w19
  unfold F19
  refine New.use fun w1 h1 m1 z1 => ?_
  refine New.use fun w2 h2 m2 z2 => ?_
  have M2 := m1.none m2
  have h12 := h1.mod m2 (by simp)
  refine ⟨_, _, _, h12.cell0, ?_⟩
  refine (rfind_ok c id (hr.mod M2 (by simp)) (by omega)).mono ?_
  rintro _ _ ⟨rfl, rfl⟩
  have same : ∀ (e : Int) (w3 : World), Mod [] w2 w3 → setL L id v = L → setE L id v = e → ∃ (x_a18 : Option Addr) (x_n19 x_c20 : Nat), Cells w3 (base w.heap.size) 0 [.slice x_a18 x_n19 x_c20] ∧ PutAll w3 (base w1.heap.size) [.slice x_a18 x_n19 x_c20] (fun w22 => ∃ (r_a24 : Option Addr) (r_n25 r_c26 : Nat), Cells w22 (base w1.heap.size) 0 [.slice r_a24 r_n25 r_c26] ∧ RefS w a L (setL L id v) (setE L id v) (.tuple #[.agg #[.slice r_a24 r_n25 r_c26], .int .i64 e]) w22) := by
    intro e w3 m3 e1 e2
    rw [e1, e2]
    have M3 := M2.none m3
    refine ⟨_, _, _, (h12.mod m3 (by simp)).cells, PutAll.use (h2.mod m3 (by simp)) rfl fun w4 h4 m4 => ⟨_, _, _, h4.cells, a, c, rfl, (hr.mod M3 (by simp)).modv m4 (fun y hy hy' => by have := hr.lt _ hy; simp at hy'; omega), M3.trans m4 (fun y hy => .inr (by simp at hy; omega)), fun y hy => .inl hy⟩⟩
  refine ⟨_, rfl, ?_⟩
  unfold rf
  by_cases hh : has L id = true
  · have hlt := has_lt hh
    rw [if_pos hh, if_neg (by omega)]
    refine ⟨_, _, _, h12.cell0, ?_⟩
    have hr2 := hr.mod M2 (by simp)
    have hr2' := hr2
    obtain ⟨p, hp, hc⟩ := hr2.flat (pv_len _) (by decide) hlt
    refine ⟨p, hp, by omega, by omega, _, _, _, _, ⟨by simpa [add_zero] using hc 0 _ rfl, hc 1 _ rfl, hc 2 _ rfl, hc 3 _ rfl, trivial⟩, ?_⟩
    refine (refRange_ok (hg.ok _ hlt).2.2.1 v w2).mono ?_
    rintro _ w3 ⟨rfl, m3⟩
    refine ⟨_, rfl, ?_⟩
    cases hin : inR L[fidx (isId id) L] v with
    | false =>
      rw [if_pos (by simp)]
      exact same 1 w3 m3 (by unfold setL; rw [dif_pos hlt, if_neg (by rw [hin]; simp)]) (by unfold setE; rw [dif_pos hlt, if_neg (by rw [hin]; simp)])
    | true =>
      rw [if_neg (by simp)]
      have es : setL L id v = L.set (fidx (isId id) L) (upd L[fidx (isId id) L] v) := by unfold setL; rw [dif_pos hlt, if_pos hin]
      have ee : setE L id v = 0 := by unfold setE; rw [dif_pos hlt, if_pos hin]
      have M3 := M2.none m3
      have h13 := h12.mod m3 (by simp)
      have h23 := h2.mod m3 (by simp)
      refine New.use fun w4 h4 m4 z4 => ?_
      have M4 := M3.none m4
      have h14 := h13.mod m4 (by simp)
      have h24 := h23.mod m4 (by simp)
      refine ⟨_, _, _, h14.cell0, ?_⟩
      obtain ⟨a', c', w5, run, o5, m5, f5⟩ := app43 (c := c) h4 (hr.mod M4 (by simp)) (by omega)
      have z3 := m3.size
      have z4' := m4.size
      have h15 := h14.mod m5 (by simp; omega)
      have h25 := h24.mod m5 (by simp; omega)
      have M5 : Mod [] w w5 := M4.trans m5 (fun y hy => .inr (by simp at hy; omega))
      have l1 := h13.lt
      have l2 := h23.lt
      have na : ∀ y ∈ fp a', w3.heap.size ≤ y := fun y hy => by rcases f5 y hy with h | h <;> omega
      refine ⟨a', _, c', w5, run, Put.use0 h15 (by simp) fun w6 h6 m6 => ?_⟩
      have o6 := o5.mod m6 (fun y hy hy' => by have := na y hy; simp at hy'; omega)
      have h26 := h25.mod m6 (by simp; omega)
      have M6 : Mod [] w w6 := M5.trans m6 (fun y hy => .inr (by simp at hy; omega))
      obtain ⟨p', hp', hw, o7, m7⟩ := o6.setAt (i := fidx (isId id) L * 4 + 3) (by rw [pv_flen]; omega) (.int .i64 v)
      refine ⟨_, _, _, h6.cell0, p', hp', by omega, by omega, ?_⟩
      have na' : ∀ y ∈ fp a', y ≠ w.heap.size ∧ y ≠ w1.heap.size := fun y hy => by have := na y hy; omega
      have h7 := h6.mod m7 (fun hy => (na' _ hy).1 rfl)
      have h27 := h26.mod m7 (fun hy => (na' _ hy).2 rfl)
      rw [Int.toNat_natCast, add_add]
      refine ⟨hw, _, _, _, h7.cells, PutAll.use h27 rfl fun w8 h8 m8 => ⟨_, _, _, h8.cells, ?_⟩⟩
      rw [es, ee]
      refine ⟨a', c', by rw [List.length_set], ?_, (M6.trans m7 (fun y hy => .inr (by have := na y hy; omega))).trans m8 (fun y hy => .inr (by simp at hy; omega)), fun y hy => .inr (by have := na y (fpv_sub y hy); omega)⟩
      rw [flat_set _ _ hlt]
      exact (o7.mod m8 (fun y hy hy' => by simp at hy'; exact (na' y hy).2 hy')).rd
  · have hlt : ¬ fidx (isId id) L < L.length := fun h => hh (decide_eq_true h)
    rw [if_neg hh, if_pos (by omega)]
    exact same 8 w2 (Mod.refl _) (by unfold setL; rw [dif_neg hlt]) (by unfold setE; rw [dif_neg hlt])
theorem rvals_ok : Does Try.prog 23 #[.agg #[.slice a L.length c]] w (GivesV w (vals L)) := by
  have hgl := hg.len
  apply w23
  unfold F23
  refine New.use fun w0 h0 m0 z0 => ?_
  refine LoopP.of (fun (x : Option Addr × Nat × Nat × Int) w' => ∃ (i : Nat) (o : Option Addr) (n e : Nat), i ≤ L.length ∧ x = (o, n, e, (i : Int)) ∧ Vl w0 (vals (L.take i)) o n e w' ∧ Mod [] w0 w') (fun x _ => L.length - x.2.2.2.toNat) ⟨0, _, _, _, by omega, rfl, Vl.nil _ _, Mod.refl _⟩ ?_
  rintro _ w1 ⟨i, o, n, e, hi, rfl, V, m1⟩
  unfold F23_b1
  dsimp only
  have h1 := h0.mod m1 (by simp)
  refine ⟨_, _, _, h1.cell0, iteI (fun hlt => ?_) (fun hlt => ?_)⟩
  · have hlt : i < L.length := by omega
    have h2 : Blk w1.drew _ _ _ := h1.drew
    have md : Mod [] w1 w1.drew := Mod.drew w1
    obtain ⟨p, rfl, hc⟩ := (((hr.mod m0 (by simp)).mod m1 (by simp)).mod md (by simp)).flat (pv_len _) (by decide) hlt
    refine ⟨_, _, _, h2.cell0, p, rfl, by omega, by omega, _, by simpa [add_zero] using hc 0 _ rfl, _, _, _, h2.cell0, p, rfl, by omega, by omega, _, hc 3 _ rfl, ?_⟩
    refine New.use fun w3 h3 m3 z3 => ?_
    have hn : n = i := by rw [V.1, vals_len, List.length_take]; omega
    obtain ⟨a', c', w4, run, V', m4⟩ := V.add m1.size (by omega) (md.none m3) (L[i].1, L[i].2.2.2) h3
    rw [← vals_take L hlt] at V'
    refine ⟨a', _, c', w4, run, ?_⟩
    have e1 : IntKind.i64.wrap ((i : Int) + 1) = ((i + 1 : Nat) : Int) := by rw [wi64 (by omega)]; omega
    rw [e1]
    exact ⟨_, by omega, ⟨i + 1, a', _, c', by omega, rfl, V', ((m1.none md).none m3).since m4 V.2.2⟩, rfl⟩
  · have hiL : i = L.length := by omega
    subst hiL
    rw [List.take_length] at V
    obtain ⟨hn, ho, hs⟩ := V
    subst hn
    exact ⟨o, e, rfl, ho.rd, m0.none m1, fun y hy => by have := hs y hy; omega⟩
end

/-- The lists of values are held against each other. -/
theorem same_ok {w : World} {a b : Option Addr} {R Q : List (Int × Int)} (c d : Nat) (hl : R.length ≤ 100000) (ha : Rd w a (R.flatMap vv)) (hb : Rd w b (Q.flatMap vv)) : Does Try.prog 12 #[.slice a R.length c, .slice b Q.length d] w fun v w' => v = .bool (decide (R = Q)) ∧ Mod [] w w' := by
  apply w12
  unfold F12
  refine iteI (fun h => ⟨by rw [decide_eq_false (fun e => h (by rw [e]))], Mod.refl _⟩) (fun h => ?_)
  have hlen : R.length = Q.length := by omega
  refine LoopP.of (fun (x : Int) w' => ∃ i : Nat, i ≤ R.length ∧ x = (i : Int) ∧ Mod [] w w' ∧ ∀ j (hj : j < i) (h1 : j < R.length) (h2 : j < Q.length), R[j] = Q[j]) (fun x _ => R.length - x.toNat) ⟨0, by omega, rfl, Mod.refl _, by omega⟩ ?_
  rintro _ w1 ⟨i, hi, rfl, m1, he⟩
  unfold F12_b1
  refine iteI (fun hlt => ?_) (fun hlt => ?_)
  · have hlt : i < R.length := by omega
    have md : Mod [] w w1.drew := m1.none (Mod.drew w1)
    obtain ⟨p, rfl, hc⟩ := (ha.mod md (by simp)).flat (vv_len _) (by decide) hlt
    obtain ⟨q, rfl, hd⟩ := (hb.mod md (by simp)).flat (vv_len _) (by decide) (show i < Q.length by omega)
    refine ⟨p, rfl, by omega, by omega, _, _, ⟨by simpa [add_zero] using hc 0 _ rfl, hc 1 _ rfl, trivial⟩, q, rfl, by omega, by omega, _, _, ⟨by simpa [add_zero] using hd 0 _ rfl, hd 1 _ rfl, trivial⟩, ?_⟩
    refine ⟨_, eq_struct (bs := [R[i].1 == Q[i].1, R[i].2 == Q[i].2]) (by kernel_rfl) (by kernel_rfl) (by kernel_rfl) _ rfl, iteI (fun hn => ?_) (fun hn => ?_)⟩
    · refine ⟨?_, md⟩
      rw [decide_eq_false]
      intro e
      subst e
      simp at hn
    · rw [wi64 (by omega)]
      refine ⟨_, by omega, ⟨i + 1, by omega, rfl, md, fun j hj h1 h2 => ?_⟩, rfl⟩
      by_cases hji : j = i
      · subst hji
        simp at hn
        exact Prod.ext hn.1 hn.2
      · exact he j (by omega) h1 h2
  · have hiR : i = R.length := by omega
    subst hiR
    refine ⟨?_, m1⟩
    rw [decide_eq_true]
    exact List.ext_getElem hlen (fun j h1 h2 => he j h1 h1 h2)
end Go.Proofs.Ytcdnljibefpchaa
