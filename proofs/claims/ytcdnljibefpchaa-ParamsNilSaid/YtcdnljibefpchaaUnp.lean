/-
  The contracts of chapter 33: Unpack, of the program and of the reference.
-/
import Derived.Test.YtcdnljibefpchaaPacks
namespace Go.Proofs.Ytcdnljibefpchaa
open Go Go.Sh Go.Proofs
set_option linter.unusedVariables false
set_option linter.unusedSimpArgs false
set_option linter.unusedSectionVars false

open Classical in
noncomputable def errL (L : List Pd) : Int := if 256 < L.length then 6 else if Good L then 0 else 1
theorem errL_is {L : List Pd} {e : Int} (h : ErrL L e) : e = errL L := by
  unfold errL
  rcases h with ⟨rfl, h⟩ | ⟨rfl, h⟩ | ⟨rfl, h, h2⟩
  · rw [if_neg (by have := h.len; omega), if_pos h]
  · rw [if_pos h]
  · rw [if_neg (by omega), if_neg h2]
theorem errL_good {L : List Pd} (h : ErrL L 0) : Good L := by
  rcases h with ⟨_, h⟩ | ⟨h, _⟩ | ⟨h, _⟩
  · exact h
  · cases h
  · cases h
/-- The value that a field stands for. -/
def sval (d : Pd) (n : Nat) : Int := if d.2.2.1 = true ∧ 2 ^ (wd d - 1) ≤ n then (n : Int) - 2 ^ wd d else (n : Int)
def pos (ds : List Pd) (i : Nat) : Nat := ((ds.take i).map wd).sum
theorem pos_succ (ds : List Pd) {i : Nat} (h : i < ds.length) : pos ds (i + 1) = pos ds i + wd ds[i] := by
  unfold pos
  rw [List.take_succ_eq_append_getElem h, List.map_append, List.sum_append]
  simp
theorem pos_le (ds : List Pd) (i : Nat) (hi : i ≤ ds.length) : pos ds i ≤ pos ds ds.length := by
  have : ∀ k, i + k ≤ ds.length → pos ds i ≤ pos ds (i + k) := by
    intro k
    induction k with
    | zero => intro _; exact Nat.le_refl _
    | succ k ih => intro hk; have := ih (by omega); rw [← Nat.add_assoc, pos_succ ds (by omega)]; omega
  have h := this (ds.length - i) (by omega)
  rwa [show i + (ds.length - i) = ds.length by omega] at h
theorem pos_bound (ds : List Pd) (h : ∀ d ∈ ds, wOk d) (i : Nat) (hi : i ≤ ds.length) : pos ds i ≤ 32 * i := by
  induction i with
  | zero => simp [pos]
  | succ i ih =>
    have h1 := ih (by omega)
    have h2 : wd ds[i] ≤ 32 := by have := (h ds[i] (List.getElem_mem _)).2; unfold wd; omega
    rw [pos_succ ds (by omega)]
    omega
def decN (l : List UInt8) (ds : List Pd) (i : Nat) : List (Int × Int) := (List.range i).map fun j => ((ds.getD j pz).1, sval (ds.getD j pz) (num l (pos ds j) (wd (ds.getD j pz))))
theorem decN_len (l : List UInt8) (ds : List Pd) (i : Nat) : (decN l ds i).length = i := by simp [decN]
theorem decN_succ (l : List UInt8) (ds : List Pd) {i : Nat} (h : i < ds.length) : decN l ds (i + 1) = decN l ds i ++ [(ds[i].1, sval ds[i] (num l (pos ds i) (wd ds[i])))] := by
  unfold decN
  rw [List.range_succ, List.map_append, List.map_singleton, List.getD_eq_getElem?_getD, List.getElem?_eq_getElem h]
  rfl
/-- What Unpack returns, where the definitions and the parameters are right. -/
def unpD (ds : List Pd) (B : List UInt8) : List (Int × Int) × Int :=
  if B.length < (pos ds ds.length + 7) / 8 then ([], 3) else if (pos ds ds.length + 7) / 8 < B.length then ([], 6) else if num B (pos ds ds.length) (8 * B.length - pos ds ds.length) ≠ 0 then ([], 4) else (decN B ds ds.length, 0)
noncomputable def unpR (L : List Pd) (X : List Int) (B : List UInt8) : List (Int × Int) × Int :=
  if errL L ≠ 0 then ([], errL L) else if chooseE L X ≠ 0 then ([], chooseE L X) else unpD (X.map (pick L)) B
def GivesU (w : World) (R : List (Int × Int) × Int) (v : Value) (w' : World) : Prop := ∃ a c, v = .tuple #[.slice a R.1.length c, .int .i64 R.2] ∧ Rd w' a (R.1.flatMap vv) ∧ Mod [] w w' ∧ Since w (fp a)
theorem GivesU.err {w w' : World} {e : Int} {R : List (Int × Int) × Int} (h : R = ([], e)) (m : Mod [] w w') : GivesU w R (.tuple #[.slice none 0 0, .int .i64 e]) w' := by
  subst h
  exact ⟨none, 0, rfl, Rd.nil, m, by intro y hy; simp [fp] at hy⟩

theorem value_ok {d : Pd} (hd : wOk d) {n : Nat} (hn : n < 2 ^ wd d) (w : World) : Does Try.prog 27 #[pval d, .int .u64 (n : Int)] w fun v w' => v = .int .i64 (sval d n) ∧ Mod [] w w' := by
  have hw : 1 ≤ wd d ∧ wd d ≤ 32 := by unfold wOk at hd; unfold wd; omega
  have ew : d.2.1 = ((wd d : Nat) : Int) := by have := hd.1; unfold wd; omega
  have hp : 2 ^ wd d ≤ 4294967296 := Nat.pow_le_pow_right (by decide) hw.2
  have hpi := pow_cast (wd d)
  have hn63 : IntKind.i64.wrap (n : Int) = (n : Int) := by rw [wi64 (by omega)]
  apply w27
  unfold F27 F27_j1
  refine New.use fun w1 h1 m1 z1 => ?_
  refine ⟨_, h1.cell (i := 2) rfl, iteI (fun hs => ?_) (fun hs => ?_)⟩
  · refine ⟨_, h1.cell (i := 1) rfl, ?_⟩
    have e1 : IntKind.i64.wrap (d.2.1 - 1) = ((wd d - 1 : Nat) : Int) := by rw [ew, wi64 (by omega)]; omega
    rw [e1, shrN .u64 n _ (by show _ ≤ 64; omega), Nat.shiftRight_eq_div_pow]
    refine ⟨by omega, ?_⟩
    have h2 : 2 ^ wd d = 2 * 2 ^ (wd d - 1) := by rw [← Nat.pow_succ']; congr 1; omega
    have hq : n / 2 ^ (wd d - 1) < 2 := Nat.div_lt_of_lt_mul (by rw [Nat.mul_comm]; omega)
    have hpos : 0 < 2 ^ (wd d - 1) := Nat.two_pow_pos _
    unfold sval
    by_cases hb : 2 ^ (wd d - 1) ≤ n
    · have : n / 2 ^ (wd d - 1) = 1 := by have := (Nat.le_div_iff_mul_le hpos (x := 1) (y := n)).2 (by omega); omega
      rw [this, if_pos (by simp), if_pos ⟨hs, hb⟩]
      refine ⟨_, h1.cell (i := 1) rfl, by omega, ?_, m1⟩
      rw [ew, shl1 (by omega), hn63, wi64 (by omega)]
    · have : n / 2 ^ (wd d - 1) = 0 := Nat.div_eq_of_lt (by omega)
      rw [this, if_neg (by simp), if_neg (fun h => hb h.2), hn63]
      exact ⟨rfl, m1⟩
  · rw [if_neg (by simp)]
    unfold sval
    rw [if_neg (fun h => hs h.1), hn63]
    exact ⟨rfl, m1⟩

theorem rdr_apart {w : World} {g : Nat} {S : List Nat} {l : List UInt8} {p : Nat} {b : Bool} {o : Option Addr} {n c : Nat} {vs : List Value} (h : Rdr w g S l p b) (ho : Own w 40 2 o n c vs) : ∀ x ∈ S, x ∉ fp o := by
  obtain ⟨a, c, rfl, _, hb, oa⟩ := h
  intro x hx
  rcases List.mem_cons.1 hx with rfl | hx
  · exact ho.ne hb (by decide)
  · exact own_apart oa ho (by decide) x hx

theorem unpack_ok {w : World} {a ax ab : Option Addr} {L : List Pd} {X : List Int} {B : List UInt8} (c cx cb : Nat) (hr : Rd w a (L.flatMap pv)) (hx : Rd w ax (X.map iv)) (hb : Rd w ab (B.map bv)) (hB : B.length ≤ 100000) :
    Does Try.prog 10 #[.slice a L.length c, .slice ax X.length cx, .slice ab B.length cb] w (GivesU w (unpR L X B)) := by
  apply w10
  unfold F10
  refine (new_ok c hr).mono ?_
  rintro _ w1 ⟨p, e, rfl, he, m1, hbad, hgood⟩
  refine ⟨_, _, rfl, iteI (fun h => ?_) (fun h => ?_)⟩
  · exact GivesU.err (by unfold unpR; rw [if_pos (by rw [← errL_is he]; exact h), ← errL_is he]) m1
  have h0 : e = 0 := Classical.byContradiction h
  subst h0
  have eL := errL_is he
  have hg := errL_good he
  obtain ⟨g, S, rfl, P, sS⟩ := hgood rfl
  refine (choose_ok P hg cx (hx.mod m1 (by simp))).mono ?_
  rintro _ w2 ⟨m2, ⟨hc, rfl⟩ | ⟨hc, o, co, rfl, ho, so⟩⟩
  · refine ⟨_, _, _, _, rfl, ?_⟩
    rw [if_pos hc]
    exact GivesU.err (by unfold unpR; rw [if_neg (by simp [← eL]), if_pos hc]) (m1.none m2)
  refine ⟨_, _, _, _, rfl, ?_⟩
  rw [if_neg (by simp)]
  have eR : unpR L X B = unpD (X.map (pick L)) B := by unfold unpR; rw [if_neg (by simp [← eL]), if_neg (by simp [hc])]
  rw [eR]
  have hX := chooseE_len hc
  have hw := picks_ok hg hc
  have hl : X.length = (X.map (pick L)).length := by simp
  generalize hds : X.map (pick L) = ds at *
  have M2 := m1.none m2
  rw [hl] at hX ⊢
  refine LoopP.of (fun (x : Int × Int) w' => ∃ i : Nat, i ≤ ds.length ∧ x = ((pos ds i : Int), (i : Int)) ∧ Mod [] w2 w') (fun x _ => ds.length - x.2.toNat) ⟨0, by omega, by simp [pos], Mod.refl _⟩ ?_
  rintro _ w3 ⟨i, hi, rfl, m3⟩
  unfold F10_b1
  dsimp only
  refine iteI (fun hlt => ?_) (fun hlt => ?_)
  · have hlt : i < ds.length := by omega
    obtain ⟨p, rfl, hcc⟩ := (ho.mod m3 (by simp)).flat (pv_len _) (by decide) hlt
    refine ⟨p, rfl, by omega, by omega, _, _, _, _, ⟨by simpa [add_zero] using hcc 0 _ rfl, hcc 1 _ rfl, hcc 2 _ rfl, hcc 3 _ rfl, trivial⟩, ?_⟩
    refine New.put rfl fun w4 h4 m4 z4 => ?_
    refine ⟨_, h4.cell (i := 1) rfl, ?_⟩
    have hb1 := pos_bound ds (fun d hd => (hw d hd).1) i (by omega)
    have hwd := (hw ds[i] (List.getElem_mem hlt)).1
    have ew : ds[i].2.1 = ((wd ds[i] : Nat) : Int) := by have := hwd.1; unfold wd; omega
    have hw32 : wd ds[i] ≤ 32 := by have := hwd.2; unfold wd; omega
    have e1 : IntKind.i64.wrap ((pos ds i : Int) + ds[i].2.1) = ((pos ds (i + 1) : Nat) : Int) := by rw [ew, pos_succ ds hlt, wi64 (by omega)]; omega
    have e2 : IntKind.i64.wrap ((i : Int) + 1) = ((i + 1 : Nat) : Int) := by rw [wi64 (by omega)]; omega
    rw [e1, e2]
    exact ⟨_, by omega, ⟨i + 1, by omega, rfl, m3.none m4⟩, rfl⟩
  have hin : i = ds.length := by omega
  subst hin
  have hb1 := pos_bound ds (fun d hd => (hw d hd).1) ds.length (by omega)
  have M3 := M2.none m3
  have esz : IntKind.i64.wrap (Int.tdiv (IntKind.i64.wrap ((pos ds ds.length : Int) + 7)) 8) = (((pos ds ds.length + 7) / 8 : Nat) : Int) := by
    rw [wi64 (n := (pos ds ds.length : Int) + 7) (by omega), show (pos ds ds.length : Int) + 7 = ((pos ds ds.length + 7 : Nat) : Int) by omega, show (8 : Int) = ((8 : Nat) : Int) from rfl, ← Int.ofNat_tdiv, wi64 (by omega)]
  rw [esz]
  refine iteI (fun h => ?_) (fun h1 => ?_)
  · exact GivesU.err (by unfold unpD; rw [if_pos (by omega)]) M3
  refine iteI (fun h => ?_) (fun h2 => ?_)
  · exact GivesU.err (by unfold unpD; rw [if_neg (by omega), if_pos (by omega)]) M3
  have hlen : B.length = (pos ds ds.length + 7) / 8 := by omega
  refine (newReader_ok ab B cb w3 (by omega) (hb.mod M3 (by simp))).mono ?_
  rintro _ w4 ⟨gr, Sr, rfl, R4, sr, m4⟩
  refine ⟨_, rfl, ?_⟩
  have M4 := M3.none m4
  refine LoopP.of (fun (x : Option Addr × Nat × Nat × Int) w' => ∃ (i : Nat) (u : Option Addr) (n cu : Nat), i ≤ ds.length ∧ x = (u, n, cu, (i : Int)) ∧ Vl w4 (decN B ds i) u n cu w' ∧ Rdr w' gr Sr B (pos ds i) false ∧ Mod [] w w' ∧ Rd w' o (ds.flatMap pv) ∧ w4.heap.size ≤ w'.heap.size) (fun x _ => ds.length - x.2.2.2.toNat) ⟨0, none, 0, 0, by omega, rfl, Vl.nil _ _, by simpa [pos] using R4, M4, (ho.mod m3 (by simp)).mod m4 (by simp), Nat.le_refl _⟩ ?_
  rintro _ w5 ⟨i, u, n, cu, hi, rfl, V, R5, M5, r5, z5⟩
  unfold F10_b2
  dsimp only
  have hsr : ∀ y ∈ Sr, w.heap.size ≤ y := fun y hy => by have := sr y hy; have := M3.size; omega
  have hgr : gr ∈ Sr := by obtain ⟨_, _, e, _⟩ := R5; rw [e]; simp
  have hn : n = i := by rw [V.1, decN_len]
  refine iteI (fun hlt => ?_) (fun hlt => ?_)
  · have hlt : i < ds.length := by omega
    have r5' := r5
    obtain ⟨p, hp, hcc⟩ := r5.flat (pv_len _) (by decide) hlt
    refine ⟨p, hp, by omega, by omega, _, _, _, _, ⟨by simpa [add_zero] using hcc 0 _ rfl, hcc 1 _ rfl, hcc 2 _ rfl, hcc 3 _ rfl, trivial⟩, ?_⟩
    refine New.put rfl fun w6 h6 m6 z6 => ?_
    have h6' : Blk w6.drew _ _ _ := h6.drew
    have md : Mod [] w5 w6.drew := m6.none (Mod.drew w6)
    have R6 := R5.mod md (by simp)
    refine ⟨_, h6'.cell0, _, _, _, _, h6'.cells, _, h6'.cell (i := 1) rfl, ?_⟩
    have hwd := (hw ds[i] (List.getElem_mem hlt)).1
    have ew : ds[i].2.1 = ((wd ds[i] : Nat) : Int) := by have := hwd.1; unfold wd; omega
    have hw32 : wd ds[i] ≤ 32 := by have := hwd.2; unfold wd; omega
    have hps := pos_succ ds hlt
    have hple := pos_le ds (i + 1) (by omega)
    rw [ew]
    refine (R6.getN (by omega) (wd ds[i]) (by omega) (by omega)).mono ?_
    rintro _ w7 ⟨rfl, m7, R7⟩
    have hlr := R5.lt gr hgr
    have h7 := h6'.mod m7 (by simp; omega)
    refine ⟨_, rfl, h7.cell0, by rw [← ew]; exact h7.cells, ?_⟩
    have vk := value_ok hwd (num_lt B (pos ds i) (wd ds[i])) w7
    unfold pval at vk
    rw [ew] at vk
    refine vk.mono ?_
    rintro _ w8 ⟨rfl, m8⟩
    refine ⟨_, rfl, (h7.mod m8 (by simp)).cell0, New.use fun w9 h9 m9 z9 => ?_⟩
    have V6 := V.mod md (by simp)
    have V7 := V6.mod m7 (fun y hy hy' => by simp at hy'; subst hy'; exact rdr_apart R6 V6.2.1 y hgr hy)
    have V8 := V7.mod m8 (by simp)
    have z8 := m8.size
    have z7 := m7.size
    have z6' := md.size
    obtain ⟨u', cu', w10, run, V', m10⟩ := V8.add (by omega) (by omega) m9 (ds[i].1, sval ds[i] (num B (pos ds i) (wd ds[i]))) h9
    rw [← decN_succ B ds hlt] at V'
    refine ⟨u', _, cu', w10, run, ?_⟩
    have e2 : IntKind.i64.wrap ((i : Int) + 1) = ((i + 1 : Nat) : Int) := by rw [wi64 (by omega)]; omega
    rw [e2]
    have R9 := (R7.mod m8 (by simp)).mod m9 (by simp)
    have V9 := V8.mod m9 (by simp)
    have R10 := R9.mod m10 (rdr_apart R9 V9.2.1)
    rw [← hps] at R10
    have M9 : Mod [] w w9 := (((M5.none md).trans m7 (fun y hy => .inr (by simp at hy; subst hy; exact hsr _ hgr))).none m8).none m9
    have s8 : ∀ y ∈ fp u, w.heap.size ≤ y := fun y hy => by have := V.2.2 y hy; have := M4.size; omega
    have hlo := ho.lt
    have zw4 : w2.heap.size ≤ w4.heap.size := (m3.none m4).size
    have zw3 : w2.heap.size ≤ w3.heap.size := m3.size
    have r10 : Rd w10 o (ds.flatMap pv) := (((((r5'.mod md (by simp)).modv m7 (fun y hy hy' => by simp at hy'; subst hy'; have := hlo _ hy; have := sr _ hgr; omega)).mod m8 (by simp)).mod m9 (by simp)).modv m10 (fun y hy hy' => by have := hlo _ hy; have := V.2.2 y hy'; omega))
    exact ⟨_, by omega, ⟨i + 1, u', _, cu', by omega, rfl, V', R10, M9.trans m10 (fun y hy => .inr (s8 y hy)), r10, by have := m9.size; have := m10.size; omega⟩, rfl⟩
  · have hin : i = ds.length := by omega
    subst hin
    refine (left_ok R5 (by omega)).mono ?_
    rintro _ w6 ⟨rfl, m6⟩
    refine ⟨_, rfl, ?_⟩
    rw [if_neg (by simp)]
    have R6 := R5.mod m6 (by simp)
    refine (R6.getN (by omega) (8 * B.length - pos ds ds.length) (by omega) (by omega)).mono ?_
    rintro _ w7 ⟨rfl, m7, R7⟩
    refine ⟨_, rfl, ?_⟩
    have M7 : Mod [] w w7 := (M5.none m6).trans m7 (fun y hy => .inr (by simp at hy; subst hy; exact hsr _ hgr))
    refine iteI (fun h => ?_) (fun h => ?_)
    · exact GivesU.err (by unfold unpD; rw [if_neg (by omega), if_neg (by omega), if_pos (by omega)]) M7
    · have eD : unpD ds B = (decN B ds ds.length, 0) := by unfold unpD; rw [if_neg (by omega), if_neg (by omega), if_neg (by omega)]
      rw [eD]
      have V6 := V.mod m6 (by simp)
      have V7 := V6.mod m7 (fun y hy hy' => by simp at hy'; subst hy'; exact rdr_apart R6 V6.2.1 y hgr hy)
      obtain ⟨rfl, ho7, so7⟩ := V7
      exact ⟨u, cu, rfl, ho7.rd, M7, fun y hy => by have := so7 y hy; have := M4.size; omega⟩
end Go.Proofs.Ytcdnljibefpchaa
