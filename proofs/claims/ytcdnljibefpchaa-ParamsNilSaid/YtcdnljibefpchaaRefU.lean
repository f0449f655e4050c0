/-
  The contracts of chapter 33: Unpack of the reference.
-/
import Derived.Test.YtcdnljibefpchaaUnp
namespace Go.Proofs.Ytcdnljibefpchaa
open Go Go.Sh Go.Proofs
set_option linter.unusedVariables false
set_option linter.unusedSimpArgs false
set_option linter.unusedSectionVars false

theorem num_none (l : List UInt8) (p : Nat) : ∀ k, (∀ i, i < k → bit l (p + i) = false) → num l p k = 0
  | 0, _ => rfl
  | k + 1, h => by rw [num, num_none l p k (fun i hi => h i (by omega)), h k (by omega)]; rfl
theorem num_some (l : List UInt8) (p i : Nat) (hb : bit l (p + i) = true) : ∀ k, i < k → num l p k ≠ 0
  | 0, h => by omega
  | k + 1, h => by
    rw [num]
    by_cases hik : i = k
    · subst hik; rw [hb]; simp
    · have := num_some l p i hb k (by omega)
      omega
/-- A bit, as the reference reads it. -/
theorem rbit_val (l : List UInt8) {n : Nat} (hn : n < 100000000) : Int.tmod (IntKind.i64.wrap (Int.tdiv (IntKind.i64.wrap ((l.getD (n / 8) 0).toNat : Int)) (2 ^ (7 - n % 8)))) 2 = ((bit l n).toNat : Int) := by
  have hx := u8lt (l.getD (n / 8) 0)
  have hb := rbit (l.getD (n / 8) 0) (r := n % 8) (by omega)
  rw [Nat.shiftRight_eq_div_pow] at hb
  have hle : (l.getD (n / 8) 0).toNat / 2 ^ (7 - n % 8) ≤ (l.getD (n / 8) 0).toNat := Nat.div_le_self _ _
  unfold bit
  rw [← hb, wi64 (n := ((l.getD (n / 8) 0).toNat : Int)) (by omega), pow_cast, ← Int.ofNat_tdiv]
  generalize (l.getD (n / 8) 0).toNat / 2 ^ (7 - n % 8) = q at *
  rw [wi64 (by omega), show (2 : Int) = ((2 : Nat) : Int) from rfl, ← Int.ofNat_tmod]
theorem div8 {n : Nat} (hn : n < 100000000) : IntKind.i64.wrap (Int.tdiv (n : Int) 8) = ((n / 8 : Nat) : Int) := by
  rw [show (8 : Int) = ((8 : Nat) : Int) from rfl, ← Int.ofNat_tdiv, wi64 (by omega)]
theorem mod8 {n : Nat} : IntKind.i64.wrap (7 - Int.tmod (n : Int) 8) = ((7 - n % 8 : Nat) : Int) := by
  rw [show (8 : Int) = ((8 : Nat) : Int) from rfl, ← Int.ofNat_tmod, wi64 (by omega)]; omega

theorem runpack_ok {w : World} {a ax ab : Option Addr} {L : List Pd} {X : List Int} {B : List UInt8} (c cx cb : Nat) (hr : Rd w a (L.flatMap pv)) (hx : Rd w ax (X.map iv)) (hb : Rd w ab (B.map bv)) (hB : B.length ≤ 100000) :
    Does Try.prog 11 #[.slice a L.length c, .slice ax X.length cx, .slice ab B.length cb] w (GivesU w (unpR L X B)) := by
  apply w11
  unfold F11
  refine (check_ok c hr).mono ?_
  rintro _ w1 ⟨e, rfl, he, m1⟩
  refine ⟨_, rfl, iteI (fun h => ?_) (fun h => ?_)⟩
  · exact GivesU.err (by unfold unpR; rw [if_pos (by rw [← errL_is he]; exact h), ← errL_is he]) m1
  have h0 : e = 0 := Classical.byContradiction h
  subst h0
  have eL := errL_is he
  have hg := errL_good he
  have hgl := hg.len
  refine (known_ok c cx (hr.mod m1 (by simp)) (hx.mod m1 (by simp)) (by omega)).mono ?_
  rintro _ _ ⟨rfl, rfl⟩
  refine ⟨_, rfl, iteI (fun hc => ?_) (fun hc => ?_)⟩
  · exact GivesU.err (by unfold unpR; rw [if_neg (by simp [← eL]), if_pos hc]) m1
  have hc : chooseE L X = 0 := Classical.byContradiction hc
  have eR : unpR L X B = unpD (X.map (pick L)) B := by unfold unpR; rw [if_neg (by simp [← eL]), if_neg (by simp [hc])]
  rw [eR]
  have hX := chooseE_len hc
  have hw := picks_ok hg hc
  have hl : X.length = (X.map (pick L)).length := by simp
  have hpx : ∀ i (h : i < X.length) (h' : i < (X.map (pick L)).length), (X.map (pick L))[i] = pick L X[i] := fun i h h' => by simp
  generalize hds : X.map (pick L) = ds at *
  -- find, of the i-th
  have fnd : ∀ {w' : World} {i : Nat} (hi : i < X.length), Mod [] w w' → ∃ (p60 : Addr), ax = some p60 ∧ w'.cell? (p60.add i) = some (.int .i64 X[i]) ∧ Does Try.prog 32 #[.slice a L.length c, .int .i64 X[i]] w' (fun v w'' => ∃ k : Nat, v = .int .i64 (k : Int) ∧ w' = w'' ∧ ∃ h : k < L.length, L[k] = ds[i]'(by omega)) := by
    intro w' i hi m
    obtain ⟨p, hp, hcell⟩ := rd_get (hx.mod m (by simp)) hi
    refine ⟨p, hp, hcell, ?_⟩
    refine (rfind_ok c X[i] (hr.mod m (by simp)) (by omega)).mono ?_
    rintro _ _ ⟨rfl, rfl⟩
    have hh := chooseE_all hc hi
    unfold rf
    rw [if_pos hh]
    exact ⟨_, rfl, rfl, has_lt hh, by rw [hpx i hi (by omega), pick_at hh]⟩
  refine LoopP.of (fun (x : Int × Int) w' => ∃ i : Nat, i ≤ ds.length ∧ x = ((pos ds i : Int), (i : Int)) ∧ w1 = w') (fun x _ => ds.length - x.2.toNat) ⟨0, by omega, by simp [pos], rfl⟩ ?_
  rintro _ _ ⟨i, hi, rfl, rfl⟩
  unfold F11_b1
  dsimp only
  refine iteI (fun hlt => ?_) (fun hlt => ?_)
  · have hlt : i < X.length := by omega
    obtain ⟨p, hp, hcell, hfind⟩ := fnd hlt m1
    refine ⟨p, hp, by omega, by omega, _, hcell, hfind.mono ?_⟩
    rintro _ _ ⟨k, rfl, rfl, hk, hkd⟩
    obtain ⟨q, hq, hcc⟩ := (hr.mod m1 (by simp)).flat (pv_len _) (by decide) hk
    refine ⟨_, rfl, q, hq, by omega, by omega, _, hcc 1 _ rfl, ?_⟩
    have hlt' : i < ds.length := by omega
    have hb1 := pos_bound ds (fun d hd => (hw d hd).1) i (by omega)
    have hwd := (hw ds[i] (List.getElem_mem hlt')).1
    have ew : ds[i].2.1 = ((wd ds[i] : Nat) : Int) := by have := hwd.1; unfold wd; omega
    have hw32 : wd ds[i] ≤ 32 := by have := hwd.2; unfold wd; omega
    rw [hkd]
    have e1 : IntKind.i64.wrap ((pos ds i : Int) + ds[i].2.1) = ((pos ds (i + 1) : Nat) : Int) := by rw [ew, pos_succ ds hlt', wi64 (by omega)]; omega
    have e2 : IntKind.i64.wrap ((i : Int) + 1) = ((i + 1 : Nat) : Int) := by rw [wi64 (by omega)]; omega
    rw [e1, e2]
    exact ⟨_, by omega, ⟨i + 1, by omega, rfl, rfl⟩, rfl⟩
  have hin : i = ds.length := by omega
  subst hin
  have hb1 := pos_bound ds (fun d hd => (hw d hd).1) ds.length (by omega)
  have esz : IntKind.i64.wrap (Int.tdiv (IntKind.i64.wrap ((pos ds ds.length : Int) + 7)) 8) = (((pos ds ds.length + 7) / 8 : Nat) : Int) := by
    rw [wi64 (n := (pos ds ds.length : Int) + 7) (by omega), show (pos ds ds.length : Int) + 7 = ((pos ds ds.length + 7 : Nat) : Int) by omega, show (8 : Int) = ((8 : Nat) : Int) from rfl, ← Int.ofNat_tdiv, wi64 (by omega)]
  rw [esz]
  refine iteI (fun h => ?_) (fun h1 => ?_)
  · exact GivesU.err (by unfold unpD; rw [if_pos (by omega)]) m1
  refine iteI (fun h => ?_) (fun h2 => ?_)
  · exact GivesU.err (by unfold unpD; rw [if_neg (by omega), if_pos (by omega)]) m1
  have hlen : B.length = (pos ds ds.length + 7) / 8 := by omega
  refine LoopP.of (fun (x : Option Addr × Nat × Nat × Int × Int) w' => ∃ (i : Nat) (u : Option Addr) (n cu : Nat), i ≤ ds.length ∧ x = (u, n, cu, (pos ds i : Int), (i : Int)) ∧ Vl w1 (decN B ds i) u n cu w' ∧ Mod [] w1 w') (fun x _ => ds.length - x.2.2.2.2.toNat) ⟨0, none, 0, 0, by omega, rfl, Vl.nil _ _, Mod.refl _⟩ ?_
  rintro _ w2 ⟨i, u, n, cu, hi, rfl, V, m2⟩
  unfold F11_b2
  dsimp only
  have M2 := m1.none m2
  have hn : n = i := by rw [V.1, decN_len]
  refine iteI (fun hlt => ?_) (fun hlt => ?_)
  · have hlt : i < X.length := by omega
    have hlt' : i < ds.length := by omega
    obtain ⟨p, hp, hcell, hfind⟩ := fnd hlt M2
    refine ⟨p, hp, by omega, by omega, _, hcell, hfind.mono ?_⟩
    rintro _ _ ⟨k, rfl, rfl, hk, hkd⟩
    obtain ⟨q, hq, hcc⟩ := (hr.mod M2 (by simp)).flat (pv_len _) (by decide) hk
    refine ⟨_, rfl, q, hq, by omega, by omega, _, _, _, _, ⟨by simpa [add_zero] using hcc 0 _ rfl, hcc 1 _ rfl, hcc 2 _ rfl, hcc 3 _ rfl, trivial⟩, ?_⟩
    rw [hkd]
    have hwd := (hw ds[i] (List.getElem_mem hlt')).1
    have hps := pos_succ ds hlt'
    have hdn := decN_succ B ds hlt'
    have hple := pos_le ds (i + 1) (by omega)
    generalize ds[i] = d at hwd hps hdn
    have ew : d.2.1 = ((wd d : Nat) : Int) := by have := hwd.1; unfold wd; omega
    have hw32 : 1 ≤ wd d ∧ wd d ≤ 32 := by unfold wOk at hwd; unfold wd; omega
    refine New.put rfl fun w3 h3 m3 z3 => ?_
    refine LoopP.of (fun (x : Int × Int × Int) w' => ∃ j : Nat, j ≤ wd d ∧ x = (((pos ds i + j : Nat) : Int), (num B (pos ds i) j : Int), (j : Int)) ∧ Mod [] w3 w') (fun x _ => wd d - x.2.2.toNat) ⟨0, by omega, by simp [num], Mod.refl _⟩ ?_
    rintro _ w4 ⟨j, hj, rfl, m4⟩
    unfold F11_b3
    dsimp only
    have h4 := h3.mod m4 (by simp)
    have hnl := num_lt B (pos ds i) j
    have hp32 : 2 ^ j ≤ 4294967296 := Nat.pow_le_pow_right (n := 2) (i := j) (j := 32) (by decide) (by omega)
    refine ⟨_, h4.cell (i := 1) rfl, iteI (fun hjw => ?_) (fun hjw => ?_)⟩
    · have hjw : j < wd d := by omega
      have md : Mod [] w w4.drew := ((M2.none m3).none m4).none (Mod.drew w4)
      have hlt8 : (pos ds i + j) / 8 < B.length := by omega
      obtain ⟨pb, hpb, hcb⟩ := rd_at (hb.mod md (by simp)) hlt8
      rw [div8 (by omega), mod8]
      refine ⟨pb, hpb, by omega, by omega, _, hcb, ?_⟩
      refine (power_ok _ (by omega) w4.drew).mono ?_
      rintro _ _ ⟨rfl, rfl⟩
      have hpw := pow_lt (n := 7 - (pos ds i + j) % 8) (by omega)
      refine ⟨_, rfl, hcb, by omega, ?_⟩
      rw [rbit_val B (by omega)]
      have hbt : (bit B (pos ds i + j)).toNat ≤ 1 := by cases bit B (pos ds i + j) <;> simp
      have e1 : IntKind.i64.wrap (((pos ds i + j : Nat) : Int) + 1) = ((pos ds i + (j + 1) : Nat) : Int) := by rw [wi64 (by omega)]; omega
      have e2 : IntKind.i64.wrap (IntKind.i64.wrap (2 * (num B (pos ds i) j : Int)) + ((bit B (pos ds i + j)).toNat : Int)) = ((num B (pos ds i) (j + 1) : Nat) : Int) := by
        rw [num, wi64 (n := 2 * (num B (pos ds i) j : Int)) (by omega), wi64 (by omega)]; omega
      have e3 : IntKind.i64.wrap ((j : Int) + 1) = ((j + 1 : Nat) : Int) := by rw [wi64 (by omega)]; omega
      rw [e1, e2, e3]
      exact ⟨_, by omega, ⟨j + 1, by omega, rfl, m4.none (Mod.drew w4)⟩, rfl⟩
    · have hjw : j = wd d := by omega
      subst hjw
      rw [← hps]
      have V4 := (V.mod m3 (by simp)).mod m4 (by simp)
      have z2 := m2.size
      have z3' := m3.size
      have z4 := m4.size
      -- the value is appended
      have j4 : ∀ w5, Mod [] w4 w5 → F11_j4 (base w2.heap.size) u n cu ((pos ds (i + 1) : Nat) : Int) (i : Int) (sval d (num B (pos ds i) (wd d))) w5 (fun x0 x1 x2 x3 x4 w' => ∃ m, m < ds.length - (i : Int).toNat ∧ ((∃ (i : Nat) (u : Option Addr) (n cu : Nat), i ≤ ds.length ∧ (x0, x1, x2, x3, x4) = (u, n, cu, (pos ds i : Int), (i : Int)) ∧ Vl w1 (decN B ds i) u n cu w' ∧ Mod [] w1 w') ∧ ds.length - x4.toNat = m)) := by
        intro w5 m5
        unfold F11_j4
        have h5 := h4.mod m5 (by simp)
        refine ⟨_, h5.cell0, New.use fun w6 h6 m6 z6 => ?_⟩
        have V5 := V4.mod m5 (by simp)
        have z5 := m5.size
        obtain ⟨u', cu', w7, run, V', m7⟩ := V5.add (by omega) (by omega) m6 (d.1, sval d (num B (pos ds i) (wd d))) h6
        rw [← hdn] at V'
        refine ⟨u', _, cu', w7, run, ?_⟩
        have e2 : IntKind.i64.wrap ((i : Int) + 1) = ((i + 1 : Nat) : Int) := by rw [wi64 (by omega)]; omega
        rw [e2]
        exact ⟨_, by omega, ⟨i + 1, u', _, cu', by omega, rfl, V', ((((m2.none m3).none m4).none m5).none m6).since m7 V.2.2⟩, rfl⟩
      have hp62 := pow_lt (n := wd d) (by omega)
      have hp61 := pow_lt (n := wd d - 1) (by omega)
      have hc1 := pow_cast (wd d)
      have hc2 := pow_cast (wd d - 1)
      refine ⟨_, h4.cell (i := 2) rfl, iteI (fun hs => ?_) (fun hs => ?_)⟩
      · refine ⟨_, h4.cell (i := 1) rfl, ?_⟩
        have e1 : IntKind.i64.wrap (d.2.1 - 1) = ((wd d - 1 : Nat) : Int) := by rw [ew, wi64 (by omega)]; omega
        rw [e1]
        refine (power_ok _ (by omega) w4).mono ?_
        rintro _ _ ⟨rfl, rfl⟩
        refine ⟨_, rfl, ?_⟩
        unfold F11_j5
        by_cases hbig : 2 ^ (wd d - 1) ≤ num B (pos ds i) (wd d)
        · rw [if_pos (decide_eq_true (by omega))]
          refine ⟨_, h4.cell (i := 1) rfl, ?_⟩
          rw [ew]
          refine (power_ok _ (by omega) w4).mono ?_
          rintro _ _ ⟨rfl, rfl⟩
          refine ⟨_, rfl, ?_⟩
          have es : IntKind.i64.wrap ((num B (pos ds i) (wd d) : Int) - 2 ^ wd d) = sval d (num B (pos ds i) (wd d)) := by
            unfold sval
            rw [if_pos ⟨hs, hbig⟩, wi64 (by omega)]
          rw [es]
          exact j4 _ (Mod.refl _)
        · rw [if_neg (by simp; omega)]
          have es : (num B (pos ds i) (wd d) : Int) = sval d (num B (pos ds i) (wd d)) := by
            unfold sval
            rw [if_neg (fun h => hbig h.2)]
          rw [es]
          exact j4 _ (Mod.refl _)
      · unfold F11_j5
        rw [if_neg (by simp)]
        have es : (num B (pos ds i) (wd d) : Int) = sval d (num B (pos ds i) (wd d)) := by
          unfold sval
          rw [if_neg (fun h => hs h.1)]
        rw [es]
        exact j4 _ (Mod.refl _)
  · have hin : i = ds.length := by omega
    subst hin
    refine LoopP.of (fun (x : Int) w' => ∃ j : Nat, pos ds ds.length + j ≤ 8 * B.length ∧ x = ((pos ds ds.length + j : Nat) : Int) ∧ Mod [] w2 w' ∧ ∀ k, k < j → bit B (pos ds ds.length + k) = false) (fun x _ => 8 * B.length - x.toNat) ⟨0, by omega, by simp, Mod.refl _, by omega⟩ ?_
    rintro _ w3 ⟨j, hj, rfl, m3, hz⟩
    unfold F11_b6
    have e8 : IntKind.i64.wrap (8 * IntKind.i64.wrap (Int.tdiv (IntKind.i64.wrap ((pos ds ds.length : Int) + 7)) 8)) = ((8 * B.length : Nat) : Int) := by rw [esz, ← hlen, wi64 (by omega)]; omega
    rw [e8]
    have md : Mod [] w w3.drew := (M2.none m3).none (Mod.drew w3)
    refine iteI (fun hjl => ?_) (fun hjl => ?_)
    · have hlt8 : (pos ds ds.length + j) / 8 < B.length := by omega
      obtain ⟨pb, hpb, hcb⟩ := rd_at (hb.mod md (by simp)) hlt8
      rw [div8 (by omega), mod8]
      refine ⟨pb, hpb, by omega, by omega, _, hcb, ?_⟩
      refine (power_ok _ (by omega) w3.drew).mono ?_
      rintro _ _ ⟨rfl, rfl⟩
      have hpw := pow_lt (n := 7 - (pos ds ds.length + j) % 8) (by omega)
      refine ⟨_, rfl, hcb, by omega, ?_⟩
      rw [rbit_val B (by omega)]
      cases hbit : bit B (pos ds ds.length + j) with
      | true =>
        rw [if_pos (by simp)]
        exact GivesU.err (by unfold unpD; rw [if_neg (by omega), if_neg (by omega), if_pos (num_some B _ j hbit _ (by omega))]) md
      | false =>
        rw [if_neg (by simp)]
        have e1 : IntKind.i64.wrap (((pos ds ds.length + j : Nat) : Int) + 1) = ((pos ds ds.length + (j + 1) : Nat) : Int) := by rw [wi64 (by omega)]; omega
        rw [e1]
        refine ⟨_, by omega, ⟨j + 1, by omega, rfl, m3.none (Mod.drew w3), fun k hk => ?_⟩, rfl⟩
        by_cases hkj : k = j
        · subst hkj; exact hbit
        · exact hz k (by omega)
    · have eD : unpD ds B = (decN B ds ds.length, 0) := by
        unfold unpD
        rw [if_neg (by omega), if_neg (by omega), if_neg]
        simp only [ne_eq, Decidable.not_not]
        exact num_none B _ _ (fun k hk => hz k (by omega))
      rw [eD]
      obtain ⟨rfl, ho, so⟩ := V.mod m3 (by simp)
      exact ⟨u, cu, rfl, ho.rd, M2.none m3, fun y hy => by have := so y hy; have := m1.size; omega⟩
end Go.Proofs.Ytcdnljibefpchaa
