/-
  The contracts of chapter 33: ranges; lists of definitions.
-/
import Derived.Test.YtcdnljibefpchaaBitsChain
import Derived.Test.YtcdnljibefpchaaBitsVal
import Derived.Test.YtcdnljibefpchaaFidx
import Derived.Test.YtcdnljibefpchaaCloneI
import Derived.Test.YtcdnljibefpchaaCloneD
namespace Go.Proofs.Ytcdnljibefpchaa
open Go Go.Sh Go.Proofs
set_option linter.unusedVariables false
set_option linter.unusedSimpArgs false

/-- ID, Width, Signed, Value. -/
abbrev Pd := Int × Int × Bool × Int
def pv (x : Pd) : List Value := [.int .i64 x.1, .int .i64 x.2.1, .bool x.2.2.1, .int .i64 x.2.2.2]
abbrev pval (x : Pd) : Value := .agg #[.int .i64 x.1, .int .i64 x.2.1, .bool x.2.2.1, .int .i64 x.2.2.2]
theorem pv_len (L : List Pd) : ∀ x ∈ L, (pv x).length = 4 := fun _ _ => rfl
theorem pv_one (L : List Pd) : ∀ u ∈ L.flatMap pv, one u = true := flat_one pv L (by intro x u hu; simp [pv] at hu; rcases hu with rfl | rfl | rfl | rfl <;> rfl)
theorem pv_flen (L : List Pd) : (L.flatMap pv).length = L.length * 4 := flat_len pv L (pv_len L)
def iv (n : Int) : Value := .int .i64 n
theorem iv_one (l : List Int) : ∀ u ∈ l.map iv, one u = true := by
  intro u hu
  obtain ⟨b, _, rfl⟩ := List.mem_map.1 hu
  rfl

def inR (d : Pd) (v : Int) : Bool := if d.2.2.1 then decide (-(2 ^ (d.2.1.toNat - 1) : Int) ≤ v ∧ v < 2 ^ (d.2.1.toNat - 1)) else decide (0 ≤ v ∧ v < 2 ^ d.2.1.toNat)
def wOk (d : Pd) : Prop := 1 ≤ d.2.1 ∧ d.2.1 ≤ 32
/-- The i-th definition is right. -/
def okAt (L : List Pd) (i : Nat) : Prop := ∀ h : i < L.length, (0 ≤ L[i].1 ∧ L[i].1 ≤ 65535) ∧ (∀ h0 : 0 < i, L[i - 1].1 < L[i].1) ∧ wOk L[i] ∧ inR L[i] L[i].2.2.2 = true
structure Good (L : List Pd) : Prop where
  len : L.length ≤ 256
  ok : ∀ i, okAt L i
/-- The error of a list of definitions. -/
def ErrL (L : List Pd) (e : Int) : Prop := (e = 0 ∧ Good L) ∨ (e = 6 ∧ 256 < L.length) ∨ (e = 1 ∧ L.length ≤ 256 ∧ ¬ Good L)
theorem ErrL.unique {L : List Pd} {e f : Int} (h : ErrL L e) (h' : ErrL L f) : e = f := by
  rcases h with ⟨rfl, h⟩ | ⟨rfl, h⟩ | ⟨rfl, h, h2⟩ <;> rcases h' with ⟨rfl, g⟩ | ⟨rfl, g⟩ | ⟨rfl, g, g2⟩ <;> first | rfl | exact absurd g h2 | exact absurd h g2 | (have := h.len; omega) | (have := g.len; omega) | omega

theorem pow_lt {n : Nat} (h : n ≤ 62) : (2 : Int) ^ n ≤ 4611686018427387904 ∧ 1 ≤ (2 : Int) ^ n := by
  have h1 : (2 : Nat) ^ n ≤ 2 ^ 62 := Nat.pow_le_pow_right (by decide) h
  have h2 : 1 ≤ (2 : Nat) ^ n := Nat.one_le_two_pow
  have e : (2 : Int) ^ n = ((2 ^ n : Nat) : Int) := by norm_cast
  rw [e]
  omega
theorem power_ok (n : Nat) (hn : n ≤ 62) (w : World) : Does Try.prog 33 #[.int .i64 (n : Int)] w fun v w' => v = .int .i64 (2 ^ n) ∧ w = w' := by
  apply w33
  unfold F33
  refine LoopP.of (fun (x : Int × Int) w' => ∃ i : Nat, i ≤ n ∧ x = (2 ^ i, (i : Int)) ∧ w = w') (fun x _ => n - x.2.toNat) ⟨0, by omega, rfl, rfl⟩ ?_
  rintro _ _ ⟨i, hi, rfl, rfl⟩
  unfold F33_b1
  dsimp only
  have hp := pow_lt (n := i) (by omega)
  refine iteI (fun h => ?_) (fun h => ?_)
  · have hp' := pow_lt (n := i + 1) (by omega)
    have e : (2 : Int) * 2 ^ i = 2 ^ (i + 1) := by rw [Int.pow_succ, Int.mul_comm]
    rw [e, wi64 (by omega), wi64 (by omega)]
    exact ⟨_, by omega, ⟨i + 1, by omega, rfl, rfl⟩, rfl⟩
  · have : i = n := by omega
    subst this
    exact ⟨rfl, rfl⟩
theorem shl1 {n : Nat} (h : n ≤ 62) : shl .i64 1 (n : Int) = 2 ^ n := by
  have hp := pow_lt h
  unfold shl
  rw [Int.toNat_natCast, Nat.min_eq_left (by show n ≤ 64; omega), Int.one_mul, wi64 (by omega)]

section
variable {d : Pd} (hd : wOk d) (v : Int) (w : World)
include hd
theorem inRange_ok : Does Try.prog 34 #[pval d, .int .i64 v] w fun x w' => x = .bool (inR d v) ∧ Mod [] w w' := by
  obtain ⟨h1, h2⟩ := hd
  apply w34
  unfold F34
  refine New.use fun w1 b1 m1 z1 => ?_
  refine ⟨_, b1.cell (i := 2) rfl, ?_⟩
  unfold inR
  have e : d.2.1 = ((d.2.1.toNat : Nat) : Int) := by omega
  refine iteI (fun hs => ?_) (fun hs => ?_)
  · refine ⟨_, b1.cell (i := 1) rfl, ?_⟩
    rw [if_pos hs]
    have e1 : IntKind.i64.wrap (d.2.1 - 1) = ((d.2.1.toNat - 1 : Nat) : Int) := by rw [wi64 (by omega)]; omega
    have hp := pow_lt (n := d.2.1.toNat - 1) (by omega)
    rw [e1, shl1 (by omega), wi64 (by omega)]
    refine ⟨by omega, iteI (fun h => ?_) (fun h => ?_)⟩
    · refine ⟨?_, m1⟩
      congr 1
      simp only [decide_eq_decide]
      omega
    · refine ⟨?_, m1⟩
      congr 1
      symm
      simp only [decide_eq_false_iff_not]
      omega
  · rw [if_neg hs]
    refine iteI (fun h => ?_) (fun h => ?_)
    · refine ⟨_, b1.cell (i := 1) rfl, by omega, ?_⟩
      rw [e, shl1 (by omega)]
      refine ⟨?_, m1⟩
      congr 1
      simp only [decide_eq_decide, Int.toNat_natCast]
      omega
    · refine ⟨?_, m1⟩
      congr 1
      symm
      simp only [decide_eq_false_iff_not]
      omega
theorem refRange_ok : Does Try.prog 41 #[pval d, .int .i64 v] w fun x w' => x = .bool (inR d v) ∧ Mod [] w w' := by
  obtain ⟨h1, h2⟩ := hd
  apply w41
  unfold F41
  refine New.use fun w1 b1 m1 z1 => ?_
  refine ⟨_, b1.cell (i := 2) rfl, ?_⟩
  unfold inR
  have e : d.2.1 = ((d.2.1.toNat : Nat) : Int) := by omega
  refine iteI (fun hs => ?_) (fun hs => ?_)
  · refine ⟨_, b1.cell (i := 1) rfl, ?_⟩
    rw [if_pos hs]
    have e1 : IntKind.i64.wrap (d.2.1 - 1) = ((d.2.1.toNat - 1 : Nat) : Int) := by rw [wi64 (by omega)]; omega
    have hp := pow_lt (n := d.2.1.toNat - 1) (by omega)
    rw [e1]
    refine (power_ok _ (by omega) w1).mono ?_
    rintro _ _ ⟨rfl, rfl⟩
    refine ⟨_, rfl, ?_⟩
    rw [wi64 (by omega)]
    refine iteI (fun h => ?_) (fun h => ?_)
    · refine ⟨_, b1.cell (i := 1) rfl, ?_⟩
      rw [e1]
      refine (power_ok _ (by omega) w1).mono ?_
      rintro _ _ ⟨rfl, rfl⟩
      refine ⟨_, rfl, ?_, m1⟩
      congr 1
      simp only [decide_eq_decide]
      omega
    · refine ⟨?_, m1⟩
      congr 1
      symm
      simp only [decide_eq_false_iff_not]
      omega
  · rw [if_neg hs]
    refine iteI (fun h => ?_) (fun h => ?_)
    · refine ⟨_, b1.cell (i := 1) rfl, ?_⟩
      rw [e]
      refine (power_ok _ (by omega) w1).mono ?_
      rintro _ _ ⟨rfl, rfl⟩
      refine ⟨_, rfl, ?_, m1⟩
      congr 1
      simp only [decide_eq_decide, Int.toNat_natCast]
      omega
    · refine ⟨?_, m1⟩
      congr 1
      symm
      simp only [decide_eq_false_iff_not]
      omega
end

/-- The specification's check. -/
theorem check_ok {w : World} {a : Option Addr} {L : List Pd} (c : Nat) (hr : Rd w a (L.flatMap pv)) : Does Try.prog 30 #[.slice a L.length c] w fun v w' => ∃ e, v = .int .i64 e ∧ ErrL L e ∧ Mod [] w w' := by
  apply w30
  unfold F30
  refine iteI (fun hl => ⟨_, rfl, .inr (.inl ⟨rfl, by omega⟩), Mod.refl _⟩) (fun hl => ?_)
  refine LoopP.of (fun (x : Int) w' => ∃ i : Nat, i ≤ L.length ∧ x = (i : Int) ∧ (∀ j, j < i → okAt L j) ∧ Mod [] w w') (fun x _ => L.length - x.toNat) ⟨0, by omega, rfl, by omega, Mod.refl _⟩ ?_
  rintro _ w1 ⟨i, hi, rfl, hb, m1⟩
  unfold F30_b1
  refine iteI (fun hlt => ?_) (fun hlt => ?_)
  · have hlt : i < L.length := by omega
    have hr1 := hr.mod m1 (by simp)
    obtain ⟨p, rfl, hcc⟩ := hr1.flat (pv_len _) (by decide) hlt
    refine ⟨p, rfl, by omega, by omega, _, _, _, _, ⟨by simpa [add_zero] using hcc 0 _ rfl, hcc 1 _ rfl, hcc 2 _ rfl, hcc 3 _ rfl, trivial⟩, ?_⟩
    refine New.put rfl fun w2 h2 m2 z2 => ?_
    have M2 := m1.none m2
    have b2 : Blk w2.drew _ _ _ := h2.drew
    have md : Mod [] w w2.drew := M2.none (Mod.drew w2)
    have bad : ¬ okAt L i → ∃ e, (Value.int .i64 1) = .int .i64 e ∧ ErrL L e ∧ Mod [] w w2.drew := fun h => ⟨_, rfl, .inr (.inr ⟨rfl, by omega, fun g => h (g.ok i)⟩), md⟩
    refine ⟨_, b2.cell0, iteI (fun h => bad fun g => by have := (g hlt).1; omega) (fun h1 => ?_)⟩
    refine ⟨_, b2.cell0, iteI (fun h => bad fun g => by have := (g hlt).1; omega) (fun h2' => ?_)⟩
    have rest : (∀ h0 : 0 < i, L[i - 1].1 < L[i].1) → ∃ (x39 : Int), w2.drew.cell? ((base w1.heap.size).add 1) = some (.int .i64 x39) ∧ if x39 < 1 then ∃ e, (Value.int .i64 1) = .int .i64 e ∧ ErrL L e ∧ Mod [] w w2.drew else ∃ (x42 : Int), w2.drew.cell? ((base w1.heap.size).add 1) = some (.int .i64 x42) ∧ if 32 < x42 then ∃ e, (Value.int .i64 1) = .int .i64 e ∧ ErrL L e ∧ Mod [] w w2.drew else
        ∃ (x45 x46 : Int) (x47 : Bool) (x48 : Int), Cells w2.drew (base w1.heap.size) 0 [.int .i64 x45, .int .i64 x46, .bool x47, .int .i64 x48] ∧ ∃ (x50 : Int), w2.drew.cell? ((base w1.heap.size).add 3) = some (.int .i64 x50) ∧ Does Try.prog 41 #[.agg #[.int .i64 x45, .int .i64 x46, .bool x47, .int .i64 x48], .int .i64 x50] w2.drew (fun v w52 => ∃ (x53 : Bool), v = .bool x53 ∧ if (!x53) = true then
                ∃ e, (Value.int .i64 1) = .int .i64 e ∧ ErrL L e ∧ Mod [] w w52
              else
                ∃ m, m < L.length - (i : Int).toNat ∧ ((∃ i' : Nat, i' ≤ L.length ∧ IntKind.i64.wrap ((i : Int) + 1) = (i' : Int) ∧ (∀ j, j < i' → okAt L j) ∧ Mod [] w w52) ∧ L.length - (IntKind.i64.wrap ((i : Int) + 1)).toNat = m)) := by
      intro hs
      refine ⟨_, b2.cell (i := 1) rfl, iteI (fun h => bad fun g => by have := (g hlt).2.2.1.1; omega) (fun h3 => ?_)⟩
      refine ⟨_, b2.cell (i := 1) rfl, iteI (fun h => bad fun g => by have := (g hlt).2.2.1.2; omega) (fun h4 => ?_)⟩
      refine ⟨_, _, _, _, b2.cells, _, b2.cell (i := 3) rfl, ?_⟩
      have hw : wOk L[i] := ⟨by omega, by omega⟩
      refine (refRange_ok hw L[i].2.2.2 w2.drew).mono ?_
      rintro _ w3 ⟨rfl, m3⟩
      refine ⟨_, rfl, ?_⟩
      cases hin : inR L[i] L[i].2.2.2 with
      | false =>
        rw [if_pos (by simp)]
        exact ⟨_, rfl, .inr (.inr ⟨rfl, by omega, fun g => by have := (g.ok i hlt).2.2.2; rw [hin] at this; cases this⟩), md.none m3⟩
      | true =>
        rw [if_neg (by simp), wi64 (by omega)]
        refine ⟨_, by omega, ⟨i + 1, by omega, rfl, fun j hj => ?_, md.none m3⟩, rfl⟩
        by_cases hji : j = i
        · subst hji
          exact fun _ => ⟨⟨by omega, by omega⟩, hs, hw, hin⟩
        · exact hb j (by omega)
    refine iteI (fun h0 => ?_) (fun h0 => rest (fun h => by omega))
    have hi1 : IntKind.i64.wrap ((i : Int) - 1) = ((i - 1 : Nat) : Int) := by rw [wi64 (by omega)]; omega
    rw [hi1]
    obtain ⟨p', hp', hcc'⟩ := (hr.mod md (by simp)).flat (pv_len _) (by decide) (i := i - 1) (by omega)
    cases hp'
    refine ⟨by omega, by omega, _, by simpa [add_zero] using hcc' 0 _ rfl, _, b2.cell0, iteI (fun h => bad fun g => by have := (g hlt).2.1 (by omega); omega) (fun h => rest (fun _ => by omega))⟩
  · exact ⟨_, rfl, .inl ⟨rfl, by omega, fun j h => hb j (by omega) h⟩, m1⟩
end Go.Proofs.Ytcdnljibefpchaa
