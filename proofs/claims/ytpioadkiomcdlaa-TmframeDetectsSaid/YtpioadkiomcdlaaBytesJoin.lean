/-
  The contract of bytes.Join with nothing between.
-/
import Derived.Test.YtpioadkiomcdlaaForms
import Derived.Test.YtpioadkiomcdlaaHeap
import Derived.Room.MakeNoZero
import Derived.Laws.Externs
namespace Go.Proofs.Ytpioadkiomcdlaa
open Go Go.Sh Go.Proofs
set_option linter.unusedVariables false

theorem mnz_run (n : Nat) (hn : n ≤ 281474976710656) (w : World) : ∃ cs : List Value, (callFunc 43 #[.int .i64 (n : Int)]).run Try.prog w = .ok (.value (.slice (some (base w.heap.size)) n cs.length)) (push w.drew.drew 5 cs) ∧ n ≤ cs.length ∧ (n ≤ maxLen → cs.length ≤ maxLen) := by
  obtain ⟨cs, hr, h1, h2, _⟩ := Lib.run_makeNoZero_cap (P := Try.prog) w #[3] 22 5 Try.underlying22 n hn
  refine ⟨cs.toList, ?_, by simpa using h1, by simpa using h2⟩
  rw [run_callFunc_extern (e := Extern.BytealgMakeNoZero.makeNoZero #[3] #[22]) Try.func43 (by kernel_rfl) (by kernel_rfl) (by kernel_rfl) (by kernel_rfl), hr]
  rfl

/-- A slice of bytes in a cell. -/
abbrev bsv (y : Option Addr × List UInt8 × Nat) : Value := .slice y.1 y.2.1.length y.2.2
def lens (L : List (Option Addr × List UInt8 × Nat)) : Nat := (L.map fun y => y.2.1.length).sum
def joined (L : List (Option Addr × List UInt8 × Nat)) : List UInt8 := L.flatMap fun y => y.2.1
theorem joined_len (L : List (Option Addr × List UInt8 × Nat)) : (joined L).length = lens L := by simp [joined, lens, List.length_flatMap]
theorem lens_take (L : List (Option Addr × List UInt8 × Nat)) {i : Nat} (hi : i < L.length) : lens (L.take (i + 1)) = lens (L.take i) + L[i].2.1.length := by
  unfold lens
  rw [List.take_succ_eq_append_getElem hi, List.map_append, List.sum_append]
  simp only [List.map_cons, List.map_nil, List.sum_cons, List.sum_nil, Nat.add_zero]
theorem joined_take (L : List (Option Addr × List UInt8 × Nat)) {i : Nat} (hi : i < L.length) : joined (L.take (i + 1)) = joined (L.take i) ++ L[i].2.1 := by
  unfold joined
  rw [List.take_succ_eq_append_getElem hi, List.flatMap_append]
  simp only [List.flatMap_cons, List.flatMap_nil, List.append_nil]
theorem lens_mono (L : List (Option Addr × List UInt8 × Nat)) (i : Nat) : lens (L.take i) ≤ lens L := by
  have : lens L = lens (L.take i) + lens (L.drop i) := by unfold lens; rw [← List.sum_append, ← List.map_append, List.take_append_drop]
  omega
theorem elemB : Elem Try.prog 5 1 1 := Elem.of (v := .int .u8 0) (by kernel_rfl) rfl (by decide)

theorem bytesJoin_ok {w : World} {a : Option Addr} {L : List (Option Addr × List UInt8 × Nat)} (c cs : Nat) (as_ : Option Addr) (h2 : 2 ≤ L.length) (hcap : L.length ≤ c) (hL : lens L ≤ 1000000) (hLL : L.length ≤ 1000000) (hr : Rd w a (L.map bsv)) (hy : ∀ y ∈ L, Rd w y.1 (y.2.1.map bv)) :
    Does Try.prog 20 #[.slice a L.length c, .slice as_ 0 cs] w fun v w' => ∃ x k, v = .slice x (joined L).length k ∧ Rd w' x ((joined L).map bv) ∧ (joined L).length ≤ k ∧ Mod [] w w' ∧ Since w (fp x) := by
  apply w20
  unfold F20
  rw [if_neg (by omega), if_neg (by omega), if_neg (by simp)]
  unfold F20_j1
  refine LoopP.of (fun (x : Int × Int) w' => ∃ i : Nat, i ≤ L.length ∧ x = ((lens (L.take i) : Int), (i : Int)) ∧ Mod [] w w') (fun x _ => L.length - x.2.toNat) ⟨0, by omega, rfl, Mod.refl _⟩ ?_
  rintro _ w1 ⟨i, hi, rfl, m1⟩
  unfold F20_b2
  have hmono := lens_mono L
  by_cases hlt : i < L.length
  · rw [if_pos (by simpa using hlt)]
    obtain ⟨p, rfl, hc⟩ := rd_get (hr.mod m1 (by simp)) hlt
    have h1 := hmono i
    have h2 := hmono (i + 1)
    have h3 := lens_take L hlt
    refine ⟨p, rfl, by simp, by simpa using hlt, _, _, _, hc, ?_⟩
    rw [if_neg (by dsimp only; rw [wi64 (by omega)]; omega)]
    unfold F20_j3
    dsimp only
    rw [wi64 (by omega), wi64 (by omega)]
    exact ⟨_, by omega, ⟨i + 1, by omega, by rw [h3]; simp, m1⟩, rfl⟩
  · have hiL : i = L.length := by omega
    subst hiL
    rw [if_neg (by simp)]
    rw [List.take_of_length_le (Nat.le_refl _)]
    obtain ⟨cs0, hrun, hn, hmx⟩ := mnz_run (lens L) (by omega) w1
    refine ⟨_, _, _, _, hrun, ?_⟩
    have md : Mod [] w1 w1.drew.drew := (Mod.drew w1).none (Mod.drew _)
    have z1 : w1.drew.drew.heap.size = w1.heap.size := rfl
    have hB := Blk.new w1.drew.drew 5 cs0
    have m2 : Mod [] w1 (push w1.drew.drew 5 cs0) := md.none (Mod.push _ _ _)
    rw [z1] at hB
    generalize push w1.drew.drew 5 cs0 = w2 at *
    have M2 := m1.none m2
    have hz := m1.size
    refine ⟨by omega, by omega, by omega, ?_⟩
    obtain ⟨p, rfl, hc⟩ := rd_get (hr.mod M2 (by simp)) (i := 0) (by omega)
    refine ⟨p, rfl, by omega, by omega, _, _, _, by simpa [add_zero] using hc, ?_⟩
    have hlen0 := lens_take L (i := 0) (by omega)
    have hl1 := hmono 1
    simp only [List.take_zero, Nat.zero_add] at hlen0
    have hl0 : lens [] = 0 := rfl
    obtain ⟨w3, run3, b3, m3⟩ := copy_cut (t := 22) (t' := 22) (ty := 3) (c' := lens L) (N := lens L) (o := 0) (n := lens L) (m := L[0].2.1.length) (d := L[0].2.2) Try.underlying22 elemB hB hn (by omega) (by omega) ((hy L[0] (by simp)).mod M2 (by simp)) (by simp) (bv_one _)
    have hcut0 : cutA (some (base w1.heap.size)) (lens L) 0 1 = some (base w1.heap.size) := by unfold cutA; split <;> simp [add_zero]
    rw [hcut0] at run3
    refine ⟨_, w3, run3, by omega, by omega, ?_⟩
    have jl := joined_len
    have J0 : ∀ y : Option Addr × List UInt8 × Nat, joined [y] = y.2.1 := fun y => by simp [joined]
    have tk1 : L.take 1 = [L[0]] := by
      clear hc hlen0 hcut0 hr hy hmono run3 b3 m3
      match L, h2 with
      | x :: L, _ => rfl
    have m3' : Mod [] w w3 := M2.trans m3 (fun x hx => .inr (by simp at hx; omega))
    rw [List.take_zero, List.nil_append, Nat.zero_add] at b3
    have b3' : Blk w3 w1.heap.size 5 ((joined (L.take 1)).map bv ++ cs0.drop (lens (L.take 1))) := by rw [tk1, J0]; simpa [lens] using b3
    clear b3
    refine LoopP.of (fun (x : Int × Int) w' => ∃ t : Nat, t + 1 ≤ L.length ∧ x = ((lens (L.take (t + 1)) : Int), (t : Int)) ∧ Blk w' w1.heap.size 5 ((joined (L.take (t + 1))).map bv ++ cs0.drop (lens (L.take (t + 1)))) ∧ Mod [] w w') (fun x _ => L.length - x.2.toNat) ⟨0, by omega, by rw [tk1]; simp [lens], b3', m3'⟩ ?_
    clear b3' m3'
    rintro _ w4 ⟨t, ht, rfl, b4, m4⟩
    unfold F20_b4
    have htl := jl (L.take (t + 1))
    have hln := hmono (t + 1)
    by_cases hlt : t + 1 < L.length
    · rw [if_pos (by simp; omega)]
      have hcutr := (hr.mod m4 (by simp)).cut (c := c) (l := 1) (z := 1) (by simp; omega)
      rw [Nat.mul_one, ← List.map_drop] at hcutr
      obtain ⟨q, hq, hcq⟩ := rd_get hcutr (i := t) (by simp; omega)
      have e0 : (L.drop 1)[t]'(by simp; omega) = L[t + 1] := by simp [Nat.add_comm]
      rw [e0] at hcq
      have hstep := lens_take L hlt
      have hln2 := hmono (t + 1 + 1)
      refine ⟨q, hq, by simp, by simp; omega, _, _, _, hcq, by simp, by simp; omega, ?_⟩
      obtain ⟨w5, run5, b5, m5⟩ := copy_cut (t := 22) (t' := 22) (ty := 3) (c' := lens L - lens (L.take (t + 1))) (N := lens L) (o := lens (L.take (t + 1))) (n := lens L - lens (L.take (t + 1))) (m := 0) (d := cs) (b := as_) (us := []) Try.underlying22 elemB b4 (by simp; omega) rfl (by omega) Rd.nil rfl (by simp)
      simp only [List.append_nil, Nat.add_zero, List.take_append_drop] at b5
      refine ⟨_, w5, run5, ?_⟩
      dsimp only
      have e1 : IntKind.i64.wrap (((lens (L.take (t + 1)) : Nat) : Int) + ((0 : Nat) : Int)) = ((lens (L.take (t + 1)) : Nat) : Int) := by rw [wi64 (by omega)]; omega
      rw [e1]
      refine ⟨by omega, by omega, ?_⟩
      have m5' : Mod [] w w5 := m4.trans m5 (fun x hx => .inr (by simp at hx; omega))
      obtain ⟨w6, run6, b6, m6⟩ := copy_cut (t := 22) (t' := 22) (ty := 3) (c' := lens L - lens (L.take (t + 1))) (N := lens L) (o := lens (L.take (t + 1))) (n := lens L - lens (L.take (t + 1))) (m := L[t + 1].2.1.length) (d := L[t + 1].2.2) Try.underlying22 elemB b5 (by simp; omega) rfl (by omega) ((hy L[t + 1] (by simp)).mod m5' (by simp)) (by simp) (bv_one _)
      refine ⟨_, w6, run6, ?_⟩
      rw [wi64 (by omega), wi64 (by omega)]
      refine ⟨_, by omega, ⟨t + 1, by omega, by rw [hstep]; simp, ?_, m5'.trans m6 (fun x hx => .inr (by simp at hx; omega))⟩, rfl⟩
      rw [joined_take L hlt, hstep, List.map_append]
      have e2 : ((joined (L.take (t + 1))).map bv ++ cs0.drop (lens (L.take (t + 1)))).take (lens (L.take (t + 1))) = (joined (L.take (t + 1))).map bv := by
        rw [List.take_append_of_le_length (by simp; omega), List.take_of_length_le (by simp; omega)]
      have e3 : ((joined (L.take (t + 1))).map bv ++ cs0.drop (lens (L.take (t + 1)))).drop (lens (L.take (t + 1)) + L[t + 1].2.1.length) = cs0.drop (lens (L.take (t + 1)) + L[t + 1].2.1.length) := by
        rw [List.drop_append, List.drop_of_length_le (by simp; omega), List.nil_append, List.drop_drop]
        congr 1
        simp; omega
      rw [e2, e3] at b6
      exact b6
    · have : t + 1 = L.length := by omega
      rw [if_neg (by simp; omega)]
      rw [this, List.take_of_length_le (Nat.le_refl _)] at b4
      have hj := jl L
      refine ⟨_, _, by rw [hj]; rfl, Rd.blkTake b4, Nat.le_of_eq hj, m4, fun x hx => by simp [fp, base] at hx; omega⟩
end Go.Proofs.Ytpioadkiomcdlaa
