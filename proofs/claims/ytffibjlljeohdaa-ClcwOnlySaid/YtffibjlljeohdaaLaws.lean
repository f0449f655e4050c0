/-
  The laws of chapter 15, as contracts.
-/
import Derived.Test.YtffibjlljeohdaaClcwDec
namespace Go.Proofs.Ytffibjlljeohdaa
open Go Go.Sh Go.Proofs
set_option linter.unusedVariables false
set_option linter.unusedSimpArgs false

theorem alive_ok (w : World) : Does Try.prog 11 #[] w fun v w' => v = .bool true ∧ Mod [] w w' := by
  apply w11
  unfold F11
  have e1 : (Cw.mk 3 false true false 2 200).out = [1, 12, 20, 200] := by decide
  have e2 : Cw.zero.out = [1, 0, 0, 0] := by decide
  have e3 : cwDec [1, 12, 20, 200] = (Cw.mk 3 false true false 2 200, 0) := by decide
  have h1 := cwEncode_ok (Cw.mk 3 false true false 2 200) w
  rw [e1] at h1
  refine h1.mono ?_
  rintro _ w1 ⟨a, k, rfl, o1, m1, s1⟩
  refine ⟨_, _, _, _, rfl, ?_⟩
  have h2 := cwEncode_ok Cw.zero w1
  rw [e2] at h2
  refine h2.mono ?_
  rintro _ w2 ⟨b, k2, rfl, o2, m2, s2⟩
  refine ⟨_, _, _, _, rfl, ?_⟩
  have h3 := cwDecode_ok k ((o1.rd.mod m2 (by simp)))
  rw [e3] at h3
  refine h3.mono ?_
  rintro _ w3 ⟨rfl, m3⟩
  refine ⟨_, _, _, _, _, _, _, rfl, ?_⟩
  refine New.use fun w4 h4 m4 _ => ?_
  refine PutAll.use h4 rfl fun w5 h5 m5 => ?_
  have M5 : Mod [] w w5 := (((m1.none m2).none m3).none m4).trans m5 (fun x hx => .inr (by have := (m1.none (m2.none m3)).size; simp at hx; omega))
  have hw : Mod [] w2 w5 := (m3.none m4).trans m5 (fun x hx => .inr (by have := m3.size; simp at hx; omega))
  rw [if_pos (by simp [Cw.err]; decide), if_pos (by simp [Cw.err]; decide), if_pos rfl]
  refine ⟨_, toStr_ok k ((o1.rd.mod m2 (by simp)).mod hw (by simp)), ?_⟩
  rw [if_pos (by simp)]
  refine ⟨_, toStr_ok k2 (o2.rd.mod hw (by simp)), ?_⟩
  rw [if_pos (by simp)]
  refine ⟨_, _, _, _, _, _, h5.cells, true, ?_, rfl, M5⟩
  have := cw_eq (Cw.mk 3 false true false 2 200) (Cw.mk 3 false true false 2 200)
  rwa [decide_eq_true rfl] at this

theorem clcwEncodes_ok (c : Cw) (w : World) : Does Try.prog 3 #[c.val] w fun v w' => v = .bool true ∧ Mod [] w w' := by
  apply w3
  unfold F3
  refine New.use fun w1 h1 m1 _ => ?_
  refine ⟨_, _, _, _, _, _, h1.cells, ?_⟩
  refine (cwEncode_ok c w1).mono ?_
  rintro _ w2 ⟨a, k, rfl, o2, m2, s2⟩
  refine ⟨_, _, _, _, rfl, _, _, _, _, _, _, (h1.mod m2 (by simp)).cells, ?_⟩
  refine (cwRefEncode_ok c w2).mono ?_
  rintro _ w3 ⟨b, j, rfl, o3, m3, s3⟩
  have h3 := ((h1.mod m2 (by simp)).mod m3 (by simp)).drew
  refine ⟨_, _, _, _, rfl, _, _, _, _, _, _, h3.cells, _, _, _, _, _, _, h3.cells, ?_⟩
  refine (cwValid_ok c _).mono ?_
  rintro _ w4 ⟨rfl, m4⟩
  have h4 := h3.mod m4 (by simp)
  refine ⟨_, rfl, h4.cells, ?_⟩
  refine (cwRefValid_ok c _).mono ?_
  rintro _ w5 ⟨rfl, m5⟩
  refine ⟨_, rfl, ?_⟩
  have N := ((Mod.drew (S := []) w3).none m4).none m5
  rw [if_pos (by simp)]
  refine ⟨_, toStr_ok k ((o2.rd.mod m3 (by simp)).mod N (by simp)), _, toStr_ok j (o3.rd.mod N (by simp)), ?_⟩
  rw [if_pos (by rw [strEq]; simp), if_pos rfl]
  refine (alive_ok _).mono ?_
  rintro _ w6 ⟨rfl, m6⟩
  exact ⟨_, rfl, rfl, (((m1.none m2).none m3).none N).none m6⟩

theorem clcwDecodes_ok {a : Option Addr} {l : List UInt8} (c : Nat) {w : World} (hr : Rd w a (l.map bv)) : Does Try.prog 4 #[.slice a l.length c] w fun v w' => v = .bool true ∧ Mod [] w w' := by
  apply w4
  unfold F4
  by_cases hl : 100 < l.length
  · rw [if_pos (by omega)]
    refine (alive_ok _).mono ?_
    rintro _ w1 ⟨rfl, m1⟩
    exact ⟨_, rfl, rfl, m1⟩
  rw [if_neg (by omega)]
  refine (cwDecode_ok c hr).mono ?_
  rintro _ w1 ⟨rfl, m1⟩
  refine ⟨_, _, _, _, _, _, _, rfl, ?_⟩
  refine New.use fun w2 h2 m2 _ => ?_
  refine PutAll.use h2 rfl fun w3 h3 m3 => ?_
  have z1 := m1.size
  have M3 := (m1.none m2).trans m3 (fun x hx => .inr (by simp at hx; omega))
  refine (cwRefDecode_ok c (hr.mod M3 (by simp))).mono ?_
  rintro _ w4 ⟨rfl, m4⟩
  refine ⟨_, _, _, _, _, _, _, rfl, ?_⟩
  refine New.use fun w5 h5 m5 _ => ?_
  refine PutAll.use h5 rfl fun w6 h6 m6 => ?_
  have z3 := M3.size
  have z4 := m4.size
  have M6 := ((M3.none m4).none m5).trans m6 (fun x hx => .inr (by simp at hx; omega))
  have h3 := ((h3.mod m4 (by simp)).mod m5 (by simp)).mod m6 (by simp; have := h3.lt; omega)
  refine ⟨_, _, _, _, _, _, h3.cells, _, _, _, _, _, _, h6.cells, true, ?_, ?_⟩
  · have := cw_eq (cwDec l).1 (cwDec l).1
    rwa [decide_eq_true rfl] at this
  rw [if_pos rfl, if_pos rfl]
  refine (alive_ok _).mono ?_
  rintro _ w7 ⟨rfl, m7⟩
  exact ⟨_, rfl, rfl, M6.none m7⟩

theorem cw_back (c : Cw) (h : c.ok = true) : cwDec (be c.n 4) = (c, 0) := by
  have e : cwOf (val (be c.n 4)) = c := by
    rw [val_be]
    simp only [Cw.ok, decide_eq_true_eq] at h
    obtain ⟨ch, lo, wa, re, bp, nx⟩ := c
    simp only at h
    have h1 : lo.toNat ≤ 1 := by cases lo <;> simp
    have h2 : wa.toNat ≤ 1 := by cases wa <;> simp
    have h3 : re.toNat ≤ 1 := by cases re <;> simp
    have b : ∀ x : Bool, x = decide (x.toNat = 1) := by decide
    unfold cwOf Cw.n
    simp only [Cw.mk.injEq]
    refine ⟨by omega, ?_, ?_, ?_, by omega, by omega⟩
    · rw [b lo]; congr 1; rw [eq_iff_iff, ← b lo]; omega
    · rw [b wa]; congr 1; rw [eq_iff_iff, ← b wa]; omega
    · rw [b re]; congr 1; rw [eq_iff_iff, ← b re]; omega
  unfold cwDec cwOk
  rw [e, be_len, if_neg (by omega), if_neg (by omega), if_pos (by simp [h])]

theorem clcwBack_ok (c : Cw) (w : World) : Does Try.prog 5 #[c.val] w fun v w' => v = .bool true ∧ Mod [] w w' := by
  apply w5
  unfold F5
  refine New.use fun w1 h1 m1 _ => ?_
  refine ⟨_, _, _, _, _, _, h1.cells, ?_⟩
  refine (cwEncode_ok c w1).mono ?_
  rintro _ w2 ⟨a, k, rfl, o2, m2, s2⟩
  have h2 := h1.mod m2 (by simp)
  refine ⟨_, _, _, _, rfl, ?_⟩
  unfold Cw.out Cw.err at *
  by_cases hok : c.ok = true
  · rw [if_pos hok] at o2 ⊢
    rw [if_pos hok, if_neg (by simp)]
    have hd := cwDecode_ok k o2.rd
    rw [cw_back c hok] at hd
    refine hd.mono ?_
    rintro _ w3 ⟨rfl, m3⟩
    refine ⟨_, _, _, _, _, _, _, rfl, ?_⟩
    refine New.use fun w4 h4 m4 _ => ?_
    refine PutAll.use h4 rfl fun w5 h5 m5 => ?_
    have z := ((m1.none m2).none m3).size
    have M5 := (((m1.none m2).none m3).none m4).trans m5 (fun x hx => .inr (by simp at hx; omega))
    have h6 := ((h2.mod m3 (by simp)).mod m4 (by simp)).mod m5 (by simp; have := (h2.mod m3 (by simp)).lt; omega)
    rw [if_pos (by rw [be_len]; rfl), if_pos rfl]
    refine ⟨_, _, _, _, _, _, h5.cells, _, _, _, _, _, _, h6.cells, true, ?_, ?_⟩
    · have := cw_eq c c
      rwa [decide_eq_true rfl] at this
    rw [if_pos rfl]
    refine ⟨_, _, _, _, _, _, h6.cells, ?_⟩
    refine (cwValid_ok c _).mono ?_
    rintro _ w7 ⟨rfl, m7⟩
    refine ⟨_, rfl, ?_⟩
    rw [if_pos hok]
    refine (alive_ok _).mono ?_
    rintro _ w8 ⟨rfl, m8⟩
    exact ⟨_, rfl, rfl, (M5.none m7).none m8⟩
  · rw [if_neg hok] at o2 ⊢
    rw [if_neg hok, if_pos (by simp), if_pos (by simp)]
    refine ⟨_, _, _, _, _, _, h2.cells, ?_⟩
    refine (cwValid_ok c _).mono ?_
    rintro _ w3 ⟨rfl, m3⟩
    refine ⟨_, rfl, ?_⟩
    rw [if_pos (by simp [hok])]
    refine (alive_ok _).mono ?_
    rintro _ w8 ⟨rfl, m8⟩
    exact ⟨_, rfl, rfl, ((m1.none m2).none m3).none m8⟩

theorem clcwOnly_ok {a : Option Addr} {l : List UInt8} (c : Nat) {w : World} (hr : Rd w a (l.map bv)) : Does Try.prog 6 #[.slice a l.length c] w fun v w' => v = .bool true ∧ Mod [] w w' := by
  apply w6
  unfold F6
  by_cases hl : 100 < l.length
  · rw [if_pos (by omega)]
    refine (alive_ok _).mono ?_
    rintro _ w1 ⟨rfl, m1⟩
    exact ⟨_, rfl, rfl, m1⟩
  rw [if_neg (by omega)]
  refine (cwDecode_ok c hr).mono ?_
  rintro _ w1 ⟨rfl, m1⟩
  refine ⟨_, _, _, _, _, _, _, rfl, ?_⟩
  refine New.use fun w2 h2 m2 _ => ?_
  refine PutAll.use h2 rfl fun w3 h3 m3 => ?_
  have z1 := m1.size
  have M3 := (m1.none m2).trans m3 (fun x hx => .inr (by simp at hx; omega))
  have ec : (cwDec l).2 = 0 ∨ ((cwDec l).2 ≠ 0 ∧ (cwDec l).1 = Cw.zero) := by unfold cwDec; split; simp; split; simp; split <;> simp
  rcases ec with h0 | ⟨h0, hz⟩
  · rw [if_neg (by omega)]
    have hok : cwOk l = true ∧ (cwDec l).1 = cwOf (val l) := by
      unfold cwDec at h0 ⊢
      split at h0; simp at h0
      split at h0; simp at h0
      split at h0
      · rename_i h4 h3 h
        rw [if_neg h4, if_neg h3, if_pos h]; exact ⟨h, rfl⟩
      · simp at h0
    obtain ⟨hok, e⟩ := hok
    rw [e] at h3
    unfold cwOk at hok
    rw [Bool.and_eq_true, beq_iff_eq] at hok
    refine ⟨_, _, _, _, _, _, h3.cells, ?_⟩
    refine (cwEncode_ok (cwOf (val l)) w3).mono ?_
    rintro _ w4 ⟨b, k, rfl, o4, m4, s4⟩
    refine ⟨_, _, _, _, rfl, _, _, _, _, _, _, (h3.mod m4 (by simp)).cells, ?_⟩
    refine (cwValid_ok (cwOf (val l)) _).mono ?_
    rintro _ w5 ⟨rfl, m5⟩
    refine ⟨_, rfl, ?_⟩
    unfold Cw.out Cw.err at *
    rw [if_pos hok.1] at o4
    rw [if_pos hok.1, if_pos hok.1, if_pos rfl, if_pos hok.1]
    rw [hok.2] at o4
    rw [hok.2]
    refine ⟨_, toStr_ok k (o4.rd.mod m5 (by simp)), _, toStr_ok c (hr.mod ((M3.none m4).none m5) (by simp)), ?_⟩
    rw [if_pos (by simp)]
    refine (alive_ok _).mono ?_
    rintro _ w8 ⟨rfl, m8⟩
    exact ⟨_, rfl, rfl, ((M3.none m4).none m5).none m8⟩
  · rw [if_pos h0]
    rw [hz] at h3
    refine ⟨_, _, _, _, _, _, h3.cells, true, ?_, ?_⟩
    · have := cw_eq Cw.zero Cw.zero
      rwa [decide_eq_true rfl] at this
    rw [if_pos rfl]
    refine (alive_ok _).mono ?_
    rintro _ w8 ⟨rfl, m8⟩
    exact ⟨_, rfl, rfl, M3.none m8⟩
end Go.Proofs.Ytffibjlljeohdaa
