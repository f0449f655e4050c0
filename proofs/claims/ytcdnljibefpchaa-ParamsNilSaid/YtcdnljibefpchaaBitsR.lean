/-
  The contracts of chapter 2: the readers.
-/
import Derived.Test.YtcdnljibefpchaaBitsW
namespace Go.Proofs.Ytcdnljibefpchaa
open Go Go.Sh Go.Proofs
set_option linter.unusedVariables false

/-- A reader in block g of its own bytes l; S: its blocks. -/
def Rdr (w : World) (g : Nat) (S : List Nat) (l : List UInt8) (at_ : Nat) (bad : Bool) : Prop :=
  ∃ a c, S = g :: fp a ∧ at_ ≤ 8 * l.length ∧ Blk w g 90 [.bool true, .slice a l.length c, .int .i64 (at_ : Int), .bool bad] ∧ Own w 5 1 a l.length c (l.map bv)
theorem Rdr.mod {w w' : World} {g : Nat} {S T : List Nat} {l : List UInt8} {p : Nat} {b : Bool} (h : Rdr w g S l p b) (hm : Mod T w w') (hd : ∀ x ∈ S, x ∉ T) : Rdr w' g S l p b := by
  obtain ⟨a, c, rfl, hp, hb, ho⟩ := h
  exact ⟨a, c, rfl, hp, hb.mod hm (hd g (by simp)), ho.mod hm (fun x hx => hd x (by simp [hx]))⟩
theorem Rdr.lt {w : World} {g : Nat} {S : List Nat} {l : List UInt8} {p : Nat} {b : Bool} (h : Rdr w g S l p b) : ∀ x ∈ S, x < w.heap.size := by
  obtain ⟨a, c, rfl, hp, hb, ho⟩ := h
  intro x hx
  rcases List.mem_cons.1 hx with rfl | hx
  · exact hb.lt
  · exact ho.lt x hx
/-- Whether a step over width bits is one; the place and the state behind it. -/
def sgood (l : List UInt8) (p : Nat) (bad : Bool) (wd : Int) : Bool := decide (bad = false ∧ 0 ≤ wd ∧ wd ≤ 8 * l.length - p)
def sat (l : List UInt8) (p : Nat) (bad : Bool) (wd : Int) : Nat := if sgood l p bad wd then p + wd.toNat else p

theorem newReader_ok (a : Option Addr) (l : List UInt8) (c : Nat) (w : World) (hl : l.length ≤ 1000000) (hr : Rd w a (l.map bv)) : Does Try.prog 26 #[.slice a l.length c] w fun v w' =>
    ∃ g S, v = .pointer (some (base g)) ∧ Rdr w' g S l 0 false ∧ (∀ x ∈ S, w.heap.size ≤ x) ∧ Mod [] w w' := by
  apply w26
  unfold F26 New
  have hm := Mod.push (S := []) w 5 []
  have ho0 : Own (push w 5 []) 5 1 (some (fresh w)) 0 0 [] := Own.blk (Blk.new w 5 []) rfl (by decide)
  obtain ⟨a', c', w', hrun, hown, hmod, hfp⟩ := append_own (d := c) Try.underlying24 elem5 24 ho0 (hr.mod hm (by simp)) (m := l.length) (by simp) (bv_one _) (by omega) (by omega)
  rw [Nat.zero_add] at hrun hown
  have hm1 : Mod [] w w' := hm.trans hmod (by simp [fp, fresh])
  have hs := hm1.size
  refine ⟨_, _, _, _, hrun, w'.heap.size, _, rfl, ⟨a', c', rfl, by omega, Blk.new _ _ _, hown.push _ _⟩, ?_, hm1.none (Mod.push _ _ _)⟩
  intro x hx
  rcases List.mem_cons.1 hx with rfl | hx
  · exact hs
  · rcases hfp with h | h <;> rw [h] at hx <;> simp [fp_fresh, size_push] at hx <;> omega

section
variable {w : World} {g : Nat} {S : List Nat} {l : List UInt8} {p : Nat} {bad : Bool} (h : Rdr w g S l p bad) (hl : l.length ≤ 1000000)
include h
theorem okR_ok : Does Try.prog 43 #[.pointer (some (base g))] w fun v w' => v = .bool (!bad) ∧ w = w' := by
  obtain ⟨a, c, rfl, hp, hb, ho⟩ := h
  apply w43
  unfold F43
  rw [if_pos (by simp)]
  refine ⟨_, rfl, true, hb.cell0, ?_⟩
  rw [if_pos rfl]
  exact ⟨bad, hb.cell (i := 3) rfl, rfl, rfl⟩
include hl
theorem left_ok : Does Try.prog 29 #[.pointer (some (base g))] w fun v w' => v = .int .i64 (if bad = true then 0 else ((8 * l.length - p : Nat) : Int)) ∧ Mod [] w w' := by
  apply w29
  unfold F29
  refine (okR_ok h).mono ?_
  rintro _ _ ⟨rfl, rfl⟩
  refine ⟨_, rfl, ?_⟩
  obtain ⟨a, c, rfl, hp, hb, ho⟩ := h
  cases bad with
  | true => rw [if_pos (by simp), if_pos rfl]; exact ⟨rfl, Mod.refl _⟩
  | false =>
    rw [if_neg (by simp), if_neg (by simp)]
    refine ⟨_, rfl, _, _, _, hb.drew.cell (i := 1) rfl, _, hb.drew.cell (i := 2) rfl, ?_, Mod.drew _⟩
    rw [wi64 (n := 8 * (l.length : Int)) (by omega), wi64 (by omega)]
    congr 1
    omega
end

theorem rbit (x : UInt8) {r : Nat} (hr : r < 8) : (x.toNat >>> (7 - r)) % 2 = (x.toBitVec.getMsbD r).toNat := by
  rw [BitVec.getMsbD, BitVec.getLsbD, Nat.testBit, Nat.and_comm, Nat.and_one_is_mod, show 8 - 1 - r = 7 - r by omega]
  rw [show x.toBitVec.toNat = x.toNat from rfl]
  have h6 : (x.toNat >>> (7 - r)) % 2 = 0 ∨ (x.toNat >>> (7 - r)) % 2 = 1 := by omega
  rcases h6 with h6 | h6 <;> simp [h6, hr]
theorem get_val (x : UInt8) {r n : Nat} (hr : r < 8) (hn : n < 2 ^ 63) : bor .u64 (shl .u64 (n : Int) 1) (IntKind.u64.wrap (band .u8 (shr .u8 (x.toNat : Int) (7 - (r : Int))) 1)) = ((2 * n + (x.toBitVec.getMsbD r).toNat : Nat) : Int) := by
  have hx := u8lt x
  have hs : x.toNat >>> (7 - r) < 256 := by rw [Nat.shiftRight_eq_div_pow]; exact Nat.lt_of_le_of_lt (Nat.div_le_self _ _) hx
  have hb : (x.toBitVec.getMsbD r).toNat ≤ 1 := by cases x.toBitVec.getMsbD r <;> simp
  rw [show (7 : Int) - (r : Int) = ((7 - r : Nat) : Int) by omega, shrN .u8 _ _ (by show _ ≤ 8; omega), show (1 : Int) = ((1 : Nat) : Int) from rfl, bandU rfl (by exact hs) (by decide), Nat.and_one_is_mod, rbit x hr]
  rw [wrapU_lt rfl (by show _ < 18446744073709551616; omega), shlU rfl _ _ (by decide), borU rfl (Nat.mod_lt _ (by decide)) (by show _ < 18446744073709551616; omega)]
  rw [Nat.mod_eq_of_lt (by rw [Nat.shiftLeft_eq]; show _ < 18446744073709551616; omega), ← Nat.shiftLeft_add_eq_or_of_lt (by omega), Nat.shiftLeft_eq, Nat.mul_comm n]
theorem ref_val (x : UInt8) {r n : Nat} (hr : r < 8) (hn : n < 2 ^ 63) : IntKind.u64.wrap (IntKind.u64.wrap (2 * (n : Int)) + IntKind.u64.wrap (Int.tmod (shr .u8 (x.toNat : Int) (7 - (r : Int))) 2)) = ((2 * n + (x.toBitVec.getMsbD r).toNat : Nat) : Int) := by
  have hb : (x.toBitVec.getMsbD r).toNat ≤ 1 := by cases x.toBitVec.getMsbD r <;> simp
  rw [show (7 : Int) - (r : Int) = ((7 - r : Nat) : Int) by omega, shrN .u8 _ _ (by show _ ≤ 8; omega), Int.tmod_eq_emod_of_nonneg (Int.natCast_nonneg _)]
  rw [show ((x.toNat >>> (7 - r) : Nat) : Int) % 2 = (((x.toNat >>> (7 - r)) % 2 : Nat) : Int) from rfl, rbit x hr, wu64, wu64, wu64]
  omega

/-- The number that Get returns, the place and the state behind it. -/
def good (l : List UInt8) (p : Nat) (bad : Bool) (wd : Int) : Bool := decide (bad = false ∧ 0 ≤ wd ∧ wd ≤ 64 ∧ wd ≤ 8 * l.length - p)
def gval (l : List UInt8) (p : Nat) (bad : Bool) (wd : Int) : Nat := if good l p bad wd then num l p wd.toNat else 0
def gat (l : List UInt8) (p : Nat) (bad : Bool) (wd : Int) : Nat := if good l p bad wd then p + wd.toNat else p
def gbad (l : List UInt8) (p : Nat) (bad : Bool) (wd : Int) : Bool := !good l p bad wd

def Gt (l : List UInt8) (p wd g : Nat) (S : List Nat) (w0 : World) (s : Int × Int) (w : World) : Prop :=
  ∃ i : Nat, i ≤ wd ∧ s = ((num l p i : Int), (i : Int)) ∧ Rdr w g S l (p + i) false ∧ Mod [g] w0 w

theorem get_ok {w : World} {g : Nat} {S : List Nat} {l : List UInt8} {p : Nat} {bad : Bool} (h : Rdr w g S l p bad) (hl : l.length ≤ 1000000) (wd : Int) :
    Does Try.prog 28 #[.pointer (some (base g)), .int .i64 wd] w fun v w' => v = .int .u64 (gval l p bad wd : Int) ∧ Mod [g] w w' ∧ Rdr w' g S l (gat l p bad wd) (gbad l p bad wd) := by
  apply w28
  unfold F28
  refine (okR_ok h).mono ?_
  rintro _ _ ⟨rfl, rfl⟩
  refine ⟨_, rfl, ?_⟩
  have hfail : ∀ w1, bad = false → Mod [] w w1 → good l p bad wd = false → F28_j1 (some (base g)) wd true w1 (fun v w' => v = .int .u64 (gval l p bad wd : Int) ∧ Mod [g] w w' ∧ Rdr w' g S l (gat l p bad wd) (gbad l p bad wd)) := by
    intro w1 hbad hm1 hf
    subst hbad
    obtain ⟨a, c, rfl, hp, hb, ho⟩ := h
    unfold F28_j1 gval gat gbad
    rw [if_pos rfl, hf]
    have hb1 := hb.mod hm1 (by simp)
    have ho1 := ho.mod hm1 (by simp)
    have hm2 : Mod [g] w1 _ := Mod.setCell w1 ((base g).add 3) (.bool true) (by rw [add_block]; simp [base])
    refine ⟨_, rfl, hb1.can (i := 3) (by simp), rfl, (hm1.weaken (by simp)).trans hm2 (fun x hx => .inl hx), a, c, rfl, hp, hb1.set 3 _, ho1.mod hm2 (fun x hx hx' => ?_)⟩
    simp at hx'
    subst hx'
    exact ho1.ne hb1 (by decide) hx
  cases bad with
  | true =>
    have hg : good l p true wd = false := by simp [good]
    rw [if_pos (by simp)]
    unfold gval gat gbad
    rw [hg]
    exact ⟨rfl, Mod.refl _, h⟩
  | false =>
    rw [if_neg (by simp)]
    by_cases h0 : wd < 0
    · rw [if_pos h0]
      exact hfail w rfl (Mod.refl _) (by unfold good; simp; omega)
    rw [if_neg h0]
    by_cases h64 : 64 < wd
    · rw [if_pos h64]
      exact hfail w rfl (Mod.refl _) (by unfold good; simp; omega)
    rw [if_neg h64]
    refine (left_ok h hl).mono ?_
    rintro _ w1 ⟨rfl, hm1⟩
    refine ⟨_, rfl, ?_⟩
    rw [if_neg (by simp)]
    have hp := h
    obtain ⟨_, _, _, hp, _⟩ := hp
    by_cases hlt : ((8 * l.length - p : Nat) : Int) < wd
    · rw [decide_eq_true hlt]
      exact hfail w1 rfl hm1 (by unfold good; simp; omega)
    · rw [decide_eq_false hlt]
      have hg : good l p false wd = true := by unfold good; simp; omega
      obtain ⟨k, rfl⟩ : ∃ k : Nat, wd = (k : Int) := ⟨wd.toNat, by omega⟩
      unfold F28_j1 gval gat gbad
      rw [if_neg (by simp), hg]
      refine LoopP.of (Gt l p k g S w) (fun s _ => k - s.2.toNat) ⟨0, by omega, rfl, h.mod hm1 (by simp), hm1.weaken (by simp)⟩ ?_
      rintro _ w2 ⟨i, hi, rfl, hr2, hm2⟩
      unfold F28_b2
      dsimp only
      by_cases hik : i < k
      · rw [if_pos (by omega)]
        obtain ⟨a, c, rfl, hp2, hb2, ho2⟩ := hr2
        have e2 : IntKind.i64.wrap (Int.tdiv ((p + i : Nat) : Int) 8) = (((p + i) / 8 : Nat) : Int) := by rw [Int.tdiv_eq_ediv_of_nonneg (by omega), wi64 (by omega)]; omega
        have e3 : IntKind.i64.wrap (7 - Int.tmod ((p + i : Nat) : Int) 8) = 7 - (((p + i) % 8 : Nat) : Int) := by rw [Int.tmod_eq_emod_of_nonneg (by omega), wi64 (by omega)]; omega
        have e4 : IntKind.i64.wrap (((p + i : Nat) : Int) + 1) = ((p + (i + 1) : Nat) : Int) := by rw [wi64 (by omega)]; omega
        have e5 : IntKind.i64.wrap ((i : Int) + 1) = ((i + 1 : Nat) : Int) := by rw [wi64 (by omega)]; omega
        obtain ⟨q, rfl, hc⟩ := rd_at ho2.drew.rd (show (p + i) / 8 < l.length by omega)
        refine ⟨_, rfl, _, _, _, hb2.drew.cell (i := 1) rfl, _, hb2.drew.cell (i := 2) rfl, q, rfl, ?_⟩
        rw [e2, Int.toNat_natCast]
        refine ⟨by omega, by omega, _, hc, _, hb2.drew.cell (i := 2) rfl, ?_⟩
        rw [e3]
        refine ⟨by omega, _, hb2.drew.cell (i := 2) rfl, hb2.drew.can (i := 2) (by simp), ?_⟩
        have hnum : num l p i < 2 ^ 63 := Nat.lt_of_lt_of_le (num_lt l p i) (Nat.pow_le_pow_right (by decide) (by omega))
        rw [e4, e5, get_val _ (by omega) hnum]
        have hm3 : Mod [g] w2.drew _ := Mod.setCell w2.drew ((base g).add 2) (.int .i64 ((p + (i + 1) : Nat) : Int)) (by rw [add_block]; simp [base])
        refine ⟨_, by omega, ⟨i + 1, by omega, rfl, ⟨some q, c, rfl, by omega, hb2.drew.set 2 _, ho2.drew.mod hm3 (fun x hx hx' => ?_)⟩, (hm2.trans (Mod.drew w2) (fun x hx => .inl hx)).trans hm3 (fun x hx => .inl hx)⟩, rfl⟩
        simp at hx'
        subst hx'
        exact ho2.ne hb2 (by decide) hx
      · have : i = k := by omega
        subst this
        rw [if_neg (by omega)]
        exact ⟨by simp, hm2, hr2⟩
end Go.Proofs.Ytcdnljibefpchaa
