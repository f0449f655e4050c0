/-
  The law, as a contract.
-/
import Derived.Test.YtnaomgfdcadncaaFive
namespace Go.Proofs.Ytnaomgfdcadncaa
open Go Go.Sh Go.Proofs
set_option linter.unusedVariables false
set_option linter.unusedSimpArgs false
set_option linter.unusedSectionVars false

theorem pnew_ok (sz : Nat) (hsz : 20 ≤ sz ∧ sz ≤ 200) (w : World) : Does Try.prog 4 #[.int .i64 (sz : Int), .int .i64 8192] w fun v w' => v = .pointer (some (base w.heap.size)) ∧ Mod [] w w' ∧ w'.heap.size = w.heap.size + 1 ∧ Pkr w' w.heap.size sz 0 0 [] none (none, 0, 0) := by
  apply w4
  unfold F4
  rw [if_neg (by omega), if_neg (by omega)]
  refine New.use fun w1 h1 m1 z1 => ⟨rfl, m1, z1, 0, ?_, Own.nil, by simp⟩
  exact h1
theorem unew_ok (w : World) : Does Try.prog 5 #[] w fun v w' => v = .pointer (some (base w.heap.size)) ∧ Mod [] w w' ∧ w'.heap.size = w.heap.size + 1 ∧ Upk w' w.heap.size false false 0 [] := by
  apply w5
  unfold F5
  exact New.use fun w1 h1 m1 z1 => ⟨rfl, m1, z1, 0, none, 0, h1, Win.nil⟩

theorem ldt_snoc (A : List Dt) (d : Dt) : ldt (A ++ [d]) = ldt A ++ [(false, d.l)] := by simp [ldt]
theorem flat_snoc (A : List Dt) (d : Dt) : (flat (ldt (A ++ [d]))).length = (flat (ldt A)).length + d.l.length := by rw [ldt_snoc, flat_app, List.length_append]
def ends (A : List Dt) : List Value := (List.range A.length).map fun i => iv (psum (ldt A) (i + 1))
theorem ends_snoc (A : List Dt) (d : Dt) : ends (A ++ [d]) = ends A ++ [iv ((flat (ldt A)).length + d.l.length)] := by
  unfold ends
  rw [List.length_append, List.length_singleton, List.range_succ, List.map_append]
  congr 1
  · refine List.map_congr_left fun i hi => ?_
    have := List.mem_range.1 hi
    rw [ldt_snoc, psum_app _ _ (by rw [ldt_len]; omega)]
  · simp only [List.map_cons, List.map_nil]
    rw [psum_full _ (by rw [ldt_len, List.length_append]; exact Nat.le_refl _), flat_snoc]

set_option maxRecDepth 100000 in
theorem topPackets_ok (size : Int) {za la : Option Addr} {zs : List Int} {ls : List Bool} (zc lc : Nat) {w0 : World} (hz : Rd w0 za (zs.map (Value.int .i64))) (hls : Rd w0 la (ls.map Value.bool)) :
    Does Try.prog 3 #[.int .i64 size, .slice za zs.length zc, .slice la ls.length lc] w0 fun v w' => v = .bool true ∧ Mod [] w0 w' := by
  apply w3
  unfold F3
  refine iteI (fun _ => ⟨rfl, Mod.refl w0⟩) (fun g1 => ?_)
  refine iteI (fun _ => ⟨rfl, Mod.refl w0⟩) (fun g2 => ?_)
  refine iteI (fun _ => ⟨rfl, Mod.refl w0⟩) (fun g3 => ?_)
  refine iteI (fun _ => ⟨rfl, Mod.refl w0⟩) (fun g4 => ?_)
  obtain ⟨sz, rfl⟩ : ∃ sz : Nat, size = (sz : Int) := ⟨size.toNat, by omega⟩
  have hsz : 20 ≤ sz ∧ sz ≤ 200 := by omega
  have hzl : zs.length ≤ 20 := by omega
  have hll : ls.length ≤ 255 := by omega
  refine (pnew_ok sz hsz w0).mono ?_
  rintro _ w1 ⟨rfl, m1, z1, P1⟩
  refine ⟨_, rfl, (unew_ok w1).mono ?_⟩
  rintro _ w2 ⟨rfl, m2, z2, U2⟩
  refine ⟨_, rfl, ?_⟩
  rw [if_neg (by simp), if_neg (by simp)]
  obtain ⟨gp, hgp⟩ : ∃ g, g = w0.heap.size := ⟨_, rfl⟩
  obtain ⟨gu, hgu⟩ : ∃ g, g = w1.heap.size := ⟨_, rfl⟩
  rw [← hgp] at P1 ⊢
  rw [← hgu] at U2 ⊢
  have M2 : Mm w0 w2 gp gu sz 0 0 [] none (none, 0, 0) false false 0 [] none 0 [] none 0 (ends []) none 0 [] := ⟨m1.none m2, by omega, by omega, P1.none m2, U2, by simp [fp], Own.nil, by simp, Own.nil, Own.nil, by simp, by simp [fp], by simp [fp], by simp [fp]⟩
  refine LoopP.of (fun (x : Option Addr × Nat × Nat × Option Addr × Nat × Nat × Int × Int) w' => ∃ (A W : List Dt) (wa aa ea : Option Addr) (ac ec : Nat), x = (aa, A.length, ac, ea, A.length, ec, (((flat (ldt A)).length : Nat) : Int), (A.length : Int)) ∧ A.length ≤ zs.length ∧ tx W = A.map (·.l) ∧ (∀ d ∈ A, isP (false, d.l) ∧ d.l.length ≤ 306) ∧ (flat (ldt A)).length ≤ 306 * A.length ∧ (∀ y ∈ fp aa, y ∉ fp wa) ∧ (∀ y ∈ fp aa, w0.heap.size ≤ y) ∧ (∀ y ∈ fp ea, w0.heap.size ≤ y) ∧ Mm w0 w' gp gu sz (flat (ldt A)).length 0 W wa (none, 0, 0) false false 0 [] aa ac A ea ec (ends A) none 0 []) (fun x _ => (zs.length - x.2.2.2.2.2.2.2).toNat)
    ⟨[], [], none, none, none, 0, 0, rfl, by simp, rfl, by simp, by simp [ldt, flat], by simp [fp], by simp [fp], by simp [fp], M2⟩ ?_
  rintro _ w3 ⟨A, W, wa, aa, ea, ac, ec, rfl, hAl, htx, hAp, hTl, hapt, hza, hze, M⟩
  unfold F3_b1
  dsimp only
  have hWl : W.length = A.length := by
    have := congrArg List.length htx
    simpa using this
  refine iteI (fun hlt => ?_) (fun hlt => ?_)
  · have hlt : A.length < zs.length := by omega
    obtain ⟨p, rfl, hc⟩ := rd_get (hz.mod M.m0 (by simp)) hlt
    have hc' : w3.cell? (p.add ((A.length : Int)).toNat) = some (.int .i64 zs[A.length]) := by rw [Int.toNat_natCast]; exact hc
    refine ⟨p, rfl, by omega, by omega, _, hc', iteI (fun _ => ⟨rfl, M.m0⟩) (fun h1 => ?_)⟩
    refine ⟨by omega, by omega, _, hc', iteI (fun _ => ⟨rfl, M.m0⟩) (fun h2 => ?_)⟩
    refine ⟨by omega, by omega, _, hc', ?_⟩
    obtain ⟨m, hm⟩ : ∃ m : Nat, zs[A.length] = (m : Int) := ⟨zs[A.length].toNat, by omega⟩
    rw [hm] at h1 h2 ⊢
    obtain ⟨w4, run4, b4, m4, z4⟩ := makeBytes w3 m (by omega)
    refine ⟨_, _, _, w4, run4, _, rfl, by omega, by omega, ?_⟩
    rw [show ((0 : Int).toNat) = 0 from rfl]
    refine Put.use b4 (by simp; omega) fun w5 b5 m5 => ?_
    obtain ⟨d, hd⟩ : ∃ d, d = (zeros m).set 0 (UInt8.ofNat A.length) := ⟨_, rfl⟩
    have hdl : d.length = m := by rw [hd, List.length_set, zeros_len]
    have ew : IntKind.u8.wrap ((A.length : Nat) : Int) = ((A.length : Nat) : Int) := by rw [wu8]; omega
    have b5' : Blk w5 w3.heap.size 5 (d.map bv) := by
      rw [hd, List.map_set]
      have e : bv (UInt8.ofNat A.length) = .int .u8 (A.length : Int) := by rw [bv_ofNat, Nat.mod_eq_of_lt (by omega)]
      rw [e, ← ew]
      exact b5
    have M5 : Mod [] w3 w5 := m4.trans m5 (fun y hy => .inr (by have q := List.mem_singleton.1 hy; omega))
    have en := encode_ok (w := w5) (a := some (base w3.heap.size)) false A.length (d := d) m (by omega) (by omega) (by simp) (Rd.blk b5')
    rw [hdl] at en
    refine en.mono ?_
    rintro _ w6 ⟨x, k, rfl, o6, m6, f6⟩
    have M6 := M5.none m6
    refine ⟨_, _, _, _, rfl, ?_⟩
    rw [if_neg (by simp)]
    have P6 := M.P.none M6
    have hpl := pk_len false A.length d
    refine (push_ok P6 (by omega) A.length k (by omega) (by omega) o6.le o6.rd (by omega) (by omega)).mono ?_
    rintro _ w7 ⟨rfl, m7, wa', a', c', fwa, P7⟩
    refine ⟨_, rfl, ?_⟩
    rw [if_neg (by simp)]
    obtain ⟨wc, bgp, ow, _⟩ := id P6
    have zs6 := M6.size
    have zs7 := m7.size
    have zs0 := M.m0.size
    have keep : ∀ {t z n c : Nat} {a : Option Addr} {vs : List Value}, Own w6 t z a n c vs → t ≠ 43 → (∀ y ∈ fp a, y ∉ fp wa) → Own w7 t z a n c vs := fun o ht hh => o.mod m7 (fun y hy hy' => by
      rcases List.mem_cons.1 hy' with h | h
      · subst h; exact o.ne bgp ht hy
      · exact hh y hy h)
    have keep2 : ∀ {t z n c : Nat} {a : Option Addr} {vs : List Value}, Own w6 t z a n c vs → t ≠ 43 → t ≠ 29 → Own w7 t z a n c vs := fun o ht h29 => keep o ht (own_apart ow o (fun e => h29 e.symm))
    have U7 : Upk w7 gu false false 0 [] := by
      obtain ⟨lo, ra, rc, b, o⟩ := M.U.none M6
      refine ⟨lo, ra, rc, b.mod m7 (fun hh => ?_), o.mod m7 (fun y hy hh => ?_)⟩
      · rcases List.mem_cons.1 hh with h | h
        · exact Blk.ne b bgp (by decide) h
        · exact ow.ne b (by decide) h
      · rcases List.mem_cons.1 hh with h | h
        · subst h; exact o.ne bgp (by decide) hy
        · exact win_apart o ow (by decide) y hy h
    have oa7 := keep (M.oa.mod M6 (by simp)) (by decide) hapt
    have oe7 := keep2 (M.oe.mod M6 (by simp)) (by decide) (by decide)
    have kA7 : ∀ e ∈ A, e.ok w7 := fun e he => keep2 ((M.kA e he).mod M6 (by simp)) (by decide) (by decide)
    have o7 := keep2 o6 (by decide) (by decide)
    have M7 : Mod [] w0 w7 := (M.m0.none M6).trans m7 (fun y hy => .inr (by
      rcases List.mem_cons.1 hy with h | h
      · subst h; exact M.zp
      · exact M.zw y h))
    refine New.use fun w8 b8 m8 z8 => ?_
    have oa8 := oa7.mod m8 (by simp)
    obtain ⟨aa', ac', w9, run9, oa9, m9, f9⟩ := append_own (m := 1) (d := 1) Try.underlying28 elem29 28 oa8 (Rd.blk b8) rfl (by simp [one]) (by omega) (by omega)
    refine ⟨_, _, _, w9, run9, New.use fun w10 b10 m10 z10 => ?_⟩
    have no9 : ∀ {t z n c : Nat} {a : Option Addr} {vs : List Value}, Own w8 t z a n c vs → t ≠ 29 → Own w9 t z a n c vs := fun o ht => o.mod m9 (own_apart oa8 o (fun e => ht e.symm))
    have oe10 := (no9 (oe7.mod m8 (by simp)) (by decide)).mod m10 (by simp)
    have hel : (ends A).length = A.length := by simp [ends]
    obtain ⟨ea', ec', w11, run11, oe11, m11, f11⟩ := append_own (m := 1) (d := 1) Try.underlying22 elem3 22 oe10 (Rd.blk b10) rfl (by simp [one]) (by omega) (by omega)
    refine ⟨_, _, _, w11, run11, ?_⟩
    have no11 : ∀ {t z n c : Nat} {a : Option Addr} {vs : List Value}, Own w10 t z a n c vs → t ≠ 3 → Own w11 t z a n c vs := fun o ht => o.mod m11 (own_apart oe10 o (fun e => ht e.symm))
    have st5 : ∀ {a : Option Addr} {n c : Nat} {vs : List Value}, Own w7 5 1 a n c vs → Own w11 5 1 a n c vs := fun o => no11 ((no9 (o.mod m8 (by simp)) (by decide)).mod m10 (by simp)) (by decide)
    have zz8 := m8.size
    have zz9 := m9.size
    have zz10 := m10.size
    have aaw : ∀ y ∈ fp aa, y ∉ fp wa' := fun y hy hy' => by
      rcases fwa y hy' with h | h
      · exact hapt y hy h
      · have := M.oa.lt y hy; omega
    have P9 : Pkr w9 gp sz ((flat (ldt A)).length + (pk false A.length d).length) 0 (W ++ [⟨a', pk false A.length d, c'⟩]) wa' (none, 0, 0) := by
      have P8 := P7.none m8
      obtain ⟨wc8, b8', ow8, k8⟩ := id P8
      exact P8.mod m9 (oa8.ne b8' (by decide)) (fun y hy hy' => aaw y hy' hy) (fun e he => own_apart oa8 (k8 e he) (by decide))
    have P11 : Pkr w11 gp sz ((flat (ldt A)).length + (pk false A.length d).length) 0 (W ++ [⟨a', pk false A.length d, c'⟩]) wa' (none, 0, 0) := by
      have P10 := P9.none m10
      obtain ⟨wc8, b8', ow8, k8⟩ := id P10
      exact P10.mod m11 (oe10.ne b8' (by decide)) (own_apart oe10 ow8 (by decide)) (fun e he => own_apart oe10 (k8 e he) (by decide))
    have U11 : Upk w11 gu false false 0 [] := (((U7.none m8).own oa8 (by decide) (by decide) m9).none m10).own oe10 (by decide) (by decide) m11
    have M9 : Mod [] w0 w9 := (M7.none m8).trans m9 (fun y hy => .inr (hza y hy))
    have M11 : Mod [] w0 w11 := (M9.none m10).trans m11 (fun y hy => .inr (hze y hy))
    have oa11 := no11 (oa9.mod m10 (by simp)) (by decide)
    rw [wi64 (n := ((flat (ldt A)).length : Int) + ((pk false A.length d).length : Int)) (by omega), wi64 (by omega)] at *
    refine ⟨_, ?_, ⟨A ++ [⟨x, pk false A.length d, k⟩], W ++ [⟨a', pk false A.length d, c'⟩], wa', aa', ea', ac', ec', ?_, ?_, ?_, fun e he => ?_, ?_, fun y hy hy' => ?_, fun y hy => ?_, fun y hy => ?_, ?_⟩, rfl⟩
    · omega
    · rw [flat_snoc, List.length_append]
      rfl
    · rw [List.length_append]; exact hlt
    · show (W ++ [(⟨a', pk false A.length d, c'⟩ : Dt)]).map (·.l) = _
      rw [List.map_append, List.map_append, show W.map (·.l) = tx W from rfl, htx]
      rfl
    · rcases List.mem_append.1 he with he | he
      · exact hAp e he
      · have e' := List.mem_singleton.1 he
        subst e'
        exact ⟨⟨A.length, d, by omega, by omega, by omega, rfl⟩, by dsimp only; omega⟩
    · rw [flat_snoc, List.length_append]
      simp only [List.length_singleton]
      omega
    · rcases f9 with h | h <;> rw [h] at hy
      · exact aaw y hy hy'
      · have q := List.mem_singleton.1 hy
        obtain ⟨wc7, b7', ow7, _⟩ := id P7
        have := ow7.lt y hy'
        omega
    · rcases f9 with h | h <;> rw [h] at hy
      · exact hza y hy
      · have q := List.mem_singleton.1 hy; have := M7.size; omega
    · rcases f11 with h | h <;> rw [h] at hy
      · exact hze y hy
      · have q := List.mem_singleton.1 hy; have := M9.size; omega
    · refine ⟨M11, M.zp, M.zu, ?_, U11, fun y hy => ?_, ?_, fun e he => ?_, ?_, Own.nil, by simp, by simp [fp], by simp [fp], by simp [fp]⟩
      · rw [flat_snoc]; exact P11
      · rcases fwa y hy with h | h
        · exact M.zw y h
        · omega
      · rw [List.length_append, List.map_append]; exact oa11
      · rcases List.mem_append.1 he with he | he
        · exact st5 (kA7 e he)
        · have e' := List.mem_singleton.1 he
          subst e'
          exact st5 o7
      · rw [List.length_append, ends_snoc]
        exact oe11
  · refine five_ok (L := ldt A ++ [(true, idl (((flat (ldt A)).length + sz - 1) / sz * sz - (flat (ldt A)).length))]) hsz rfl rfl (by omega) (by omega) (fun e he => ⟨(hAp e he).1, by have := (hAp e he).2; omega⟩) ?_ M htx hls hll
    unfold ends
    refine List.map_congr_left fun i hi => ?_
    have := List.mem_range.1 hi
    rw [psum_app _ _ (by rw [ldt_len]; omega)]
end Go.Proofs.Ytnaomgfdcadncaa
