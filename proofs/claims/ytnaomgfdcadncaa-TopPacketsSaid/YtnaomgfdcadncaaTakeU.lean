/-
  The unpacker's Take.
-/
import Derived.Test.YtnaomgfdcadncaaUnp
namespace Go.Proofs.Ytnaomgfdcadncaa
open Go Go.Sh Go.Proofs
set_option linter.unusedVariables false
set_option linter.unusedSimpArgs false
set_option linter.unusedSectionVars false

theorem Res.since {w0 w w' : World} {gu nx m : Nat} {b : Bool} {L : List (Bool × List UInt8)} {v : Value} (m0 : Mod [gu] w0 w) (h : Res w w' gu b nx L m v) : Res w0 w' gu b nx L m v := by
  obtain ⟨h1, c, oa, oc, outs, h2, h3, h4, h5, h6, h7, h8, h9, h10⟩ := h
  exact ⟨m0.same h1, c, oa, oc, outs, h2, h3, h4, h5, h6, h7, h8, h9, fun y hy => by have := h10 y hy; have := m0.size; omega⟩

section
variable {w : World} {gu nx m : Nat} {R D : List UInt8} {L : List (Bool × List UInt8)} {da : Option Addr} {dc : Nat}
theorem jA {w0 : World} {f : Int} (h : Upk w gu true true nx R) (m0 : Mod [gu] w0 w) (hD : Rd w da (D.map bv)) (hRD : R ++ D = (flat L).take m) (hL : ∀ e ∈ L, isP e) (hm : m ≤ (flat L).length) (hmm : m ≤ 100000) (hLl : L.length ≤ 1000) : F10_j1 (base gu) da D.length dc (some (base gu)) f w (fun v w' => Res w0 w' gu true nx L m v) := by
  unfold F10_j1
  obtain ⟨lo, ra, rc, b, o⟩ := id h
  refine ⟨_, b.cell (i := 2) rfl, ?_⟩
  rw [if_pos rfl]
  refine ⟨_, _, _, b.cell (i := 5) rfl, New.use fun w1 b1 m1 z1 => ?_⟩
  have hlen : (R ++ D).length ≤ 100000 := by rw [hRD, List.length_take]; omega
  refine (concat_ok (w := w1) (p := some (base w.heap.size)) 2 (L := [⟨ra, R, rc⟩, ⟨da, D, dc⟩]) (Rd.blk b1) (fun d hd => by
    simp at hd
    rcases hd with rfl | rfl
    · exact o.rd.mod m1 (by simp)
    · exact hD.mod m1 (by simp)) (by simp) (by simpa using hlen)).mono ?_
  rintro _ w2 ⟨x, k, rfl, o2, m2, f2⟩
  have ef : [(⟨ra, R, rc⟩ : Dt), ⟨da, D, dc⟩].flatMap (·.l) = (flat L).take m := by simp [hRD]
  rw [ef] at o2 ⊢
  have b2 := (b.mod m1 (by simp)).mod m2 (by simp)
  refine ⟨_, _, _, rfl, Put.use b2 (by simp) fun w3 b3 m3 => ?_⟩
  have h3 : Upk w3 gu true true nx ((flat L).take m) := ⟨lo, x, k, b3, Win.of_own (o2.mod m3 (fun y hy hy' => by simp at hy'; subst hy'; exact o2.ne b2 (by decide) hy))⟩
  unfold F10_j2
  refine (packets_ok h3 hL hm hmm hLl).mono ?_
  intro v w4 hres
  have hm3 : Mod [gu] w w3 := ((m1.none m2).weaken (by simp)).same m3
  have r := hres.since (m0.same hm3)
  obtain ⟨_, c, oa, oc, outs, rfl, _⟩ := id r
  exact ⟨_, _, _, rfl, r⟩
theorem jC {w0 : World} {f : Nat} (h : Upk w gu true false nx R) (m0 : Mod [gu] w0 w) (hD : Rd w da (D.map bv)) (hf : f < D.length) (hf2 : f ≠ 2047) (hdc : D.length ≤ dc) (hRD : D.drop f = (flat L).take m) (hL : ∀ e ∈ L, isP e) (hm : m ≤ (flat L).length) (hmm : m ≤ 100000) (hLl : L.length ≤ 1000) : F10_j1 (base gu) da D.length dc (some (base gu)) (f : Int) w (fun v w' => Res w0 w' gu true nx L m v) := by
  unfold F10_j1
  obtain ⟨lo, ra, rc, b, o⟩ := id h
  refine ⟨_, b.cell (i := 2) rfl, ?_⟩
  rw [if_neg (by simp), if_neg (by omega)]
  refine ⟨by omega, by omega, ?_⟩
  rw [Int.toNat_natCast]
  have hD' : Rd w (cutA da dc f 1) ((D.drop f).map bv) := by
    have := hD.cut (c := dc) (l := f) (z := 1) (by simp; omega)
    rw [Nat.mul_one, ← List.map_drop] at this
    exact this
  have hl : D.length - f = (D.drop f).length := by rw [List.length_drop]
  rw [hl]
  have hlen : (D.drop f).length ≤ 100000 := by rw [hRD, List.length_take]; omega
  refine (clone22 (dc - f) hD' (by omega)).mono ?_
  rintro _ w2 ⟨x, k, rfl, o2, m2, f2⟩
  have b2 := b.mod m2 (by simp)
  refine ⟨_, _, _, rfl, Put.use b2 (by simp) fun w3 b3 m3 => Put.use b3 (by simp) fun w4 b4 m4 => ?_⟩
  have m34 := m3.same m4
  rw [hRD] at o2 b4
  have h3 : Upk w4 gu true true nx ((flat L).take m) := ⟨lo, x, k, b4, Win.of_own (o2.mod m34 (fun y hy hy' => by simp at hy'; subst hy'; exact o2.ne b2 (by decide) hy))⟩
  unfold F10_j2
  refine (packets_ok h3 hL hm hmm hLl).mono ?_
  intro v w5 hres
  have hm3 : Mod [gu] w w4 := (m2.weaken (by simp)).same m34
  have r := hres.since (m0.same hm3)
  obtain ⟨_, c, oa, oc, outs, rfl, _⟩ := id r
  exact ⟨_, _, _, rfl, r⟩
variable {begun st : Bool}
theorem takeA1 (n nn : Nat) (h : Upk w gu begun st nx R) (hn : n < 256) (hx : nx < 256) (hs : inStep begun st nx n = true) (oD : Own w 5 1 da D.length dc (D.map bv)) (hd : 6 ≤ D.length ∧ D.length ≤ 2000) (hr : R.length ≤ 5000) (hh : R ≠ [] → Head (R ++ D.take 6) nn ∧ R.length ≤ nn) {f : Nat} (hf : f = if R.length = 0 then 0 else if nn - R.length < D.length then nn - R.length else 2047) (hlt : f < D.length)
    (hRD : R ++ D = (flat L).take m) (hL : ∀ e ∈ L, isP e) (hm : m ≤ (flat L).length) (hmm : m ≤ 100000) (hLl : L.length ≤ 1000) :
    Does Try.prog 10 #[.pointer (some (base gu)), .int .i64 (n : Int), .int .i64 (f : Int), .slice da D.length dc] w fun v w' => Res w w' gu true ((n + 1) % 256) L m v := by
  apply w10
  unfold F10
  obtain ⟨lo0, ra0, rc0, b0, o0⟩ := id h
  rw [if_neg (by simp)]
  refine ⟨_, rfl, _, b0.cell0, ?_⟩
  rw [if_neg (by simp), if_neg (by omega), if_neg (by omega), if_pos (by omega), if_pos (by omega), if_neg (by omega), if_neg (by omega)]
  refine (count_ok h n hn hx).mono ?_
  rintro _ w1 ⟨rfl, m1, h1⟩
  refine ⟨rfl, ?_⟩
  rw [if_neg (by omega)]
  rw [hs] at h1
  have oD1 : Own w1 5 1 da D.length dc (D.map bv) := oD.mod m1 (fun y hy hy' => by simp at hy'; subst hy'; obtain ⟨lo, ra, rc, b, o⟩ := h; exact oD.ne b (by decide) hy)
  obtain ⟨lo, ra, rc, b, o⟩ := id h1
  refine ⟨_, b.cell (i := 2) rfl, ?_⟩
  rw [if_pos rfl]
  refine ⟨_, _, _, b.cell (i := 5) rfl, (fit_ok rc dc nn o.rd oD1.rd (by omega) oD1.le hr hh).mono ?_⟩
  rintro _ w2 ⟨rfl, m2⟩
  refine ⟨_, _, rfl, ?_⟩
  rw [if_pos rfl, ← hf]
  have b2 := b.mod m2 (by simp)
  refine Put.use b2 (by simp) fun w3 b3 m3 => ?_
  rw [decide_eq_true rfl] at b3
  have m13 : Mod [gu] w1 w3 := (m2.weaken (by simp)).same m3
  have h3 : Upk w3 gu true true ((n + 1) % 256) R := ⟨lo, ra, rc, b3, o.mod m13 (fun y hy hy' => by simp at hy'; subst hy'; exact o.ne b (by decide) hy)⟩
  have oD3 : Own w3 5 1 da D.length dc (D.map bv) := oD1.mod m13 (fun y hy hy' => by simp at hy'; subst hy'; exact oD1.ne b (by decide) hy)
  exact jA (f := (f : Int)) (dc := dc) h3 (m1.same m13) oD3.rd hRD hL hm hmm hLl
theorem takeA5 (n nn : Nat) (h : Upk w gu begun st nx R) (hn : n < 256) (hx : nx < 256) (hs : inStep begun st nx n = true) (oD : Own w 5 1 da D.length dc (D.map bv)) (hd : 6 ≤ D.length ∧ D.length ≤ 2000) (hr : R.length ≤ 5000) (hh : R ≠ [] → Head (R ++ D.take 6) nn ∧ R.length ≤ nn) {f : Nat} (hf : f = if R.length = 0 then 0 else if nn - R.length < D.length then nn - R.length else 2047) (hlt : f = 2047)
    (hRD : R ++ D = (flat L).take m) (hL : ∀ e ∈ L, isP e) (hm : m ≤ (flat L).length) (hmm : m ≤ 100000) (hLl : L.length ≤ 1000) :
    Does Try.prog 10 #[.pointer (some (base gu)), .int .i64 (n : Int), .int .i64 (f : Int), .slice da D.length dc] w fun v w' => Res w w' gu true ((n + 1) % 256) L m v := by
  apply w10
  unfold F10
  obtain ⟨lo0, ra0, rc0, b0, o0⟩ := id h
  rw [if_neg (by simp)]
  refine ⟨_, rfl, _, b0.cell0, ?_⟩
  rw [if_neg (by simp), if_neg (by omega), if_neg (by omega), if_neg (by omega)]
  refine (count_ok h n hn hx).mono ?_
  rintro _ w1 ⟨rfl, m1, h1⟩
  refine ⟨rfl, ?_⟩
  rw [if_neg (by omega)]
  rw [hs] at h1
  have oD1 : Own w1 5 1 da D.length dc (D.map bv) := oD.mod m1 (fun y hy hy' => by simp at hy'; subst hy'; obtain ⟨lo, ra, rc, b, o⟩ := h; exact oD.ne b (by decide) hy)
  obtain ⟨lo, ra, rc, b, o⟩ := id h1
  refine ⟨_, b.cell (i := 2) rfl, ?_⟩
  rw [if_pos rfl]
  refine ⟨_, _, _, b.cell (i := 5) rfl, (fit_ok rc dc nn o.rd oD1.rd (by omega) oD1.le hr hh).mono ?_⟩
  rintro _ w2 ⟨rfl, m2⟩
  refine ⟨_, _, rfl, ?_⟩
  rw [if_pos rfl, ← hf]
  have b2 := b.mod m2 (by simp)
  refine Put.use b2 (by simp) fun w3 b3 m3 => ?_
  rw [decide_eq_true rfl] at b3
  have m13 : Mod [gu] w1 w3 := (m2.weaken (by simp)).same m3
  have h3 : Upk w3 gu true true ((n + 1) % 256) R := ⟨lo, ra, rc, b3, o.mod m13 (fun y hy hy' => by simp at hy'; subst hy'; exact o.ne b (by decide) hy)⟩
  have oD3 : Own w3 5 1 da D.length dc (D.map bv) := oD1.mod m13 (fun y hy hy' => by simp at hy'; subst hy'; exact oD1.ne b (by decide) hy)
  exact jA (f := (f : Int)) (dc := dc) h3 (m1.same m13) oD3.rd hRD hL hm hmm hLl
theorem takeB (n : Nat) (h : Upk w gu begun st nx R) (hn : n < 256) (hx : nx < 256) (hs : inStep begun st nx n = false) {f : Nat} (hf : f = 2047) :
    Does Try.prog 10 #[.pointer (some (base gu)), .int .i64 (n : Int), .int .i64 (f : Int), .slice da D.length dc] w fun v w' => v = .slice none 0 0 ∧ Mod [gu] w w' ∧ Upk w' gu true false ((n + 1) % 256) [] := by
  subst hf
  apply w10
  unfold F10
  obtain ⟨lo0, ra0, rc0, b0, o0⟩ := id h
  rw [if_neg (by simp)]
  refine ⟨_, rfl, _, b0.cell0, ?_⟩
  rw [if_neg (by simp), if_neg (by omega), if_neg (by omega), if_neg (by omega)]
  refine (count_ok h n hn hx).mono ?_
  rintro _ w1 ⟨rfl, m1, h1⟩
  refine ⟨rfl, ?_⟩
  rw [if_neg (by omega)]
  rw [hs] at h1
  obtain ⟨lo, ra, rc, b, o⟩ := id h1
  refine ⟨_, b.cell (i := 2) rfl, ?_⟩
  rw [if_neg (by simp)]
  unfold F10_j5
  refine ⟨_, b.cell (i := 2) rfl, ?_⟩
  rw [if_neg (by simp), if_pos (show ((2047 : Nat) : Int) = 2047 from rfl)]
  exact Put.use b (by simp) fun w2 b2 m2 => ⟨rfl, m1.same m2, lo, none, 0, b2, Win.nil⟩
theorem takeC (n : Nat) (h : Upk w gu begun st nx R) (hn : n < 256) (hx : nx < 256) (hs : inStep begun st nx n = false) (oD : Own w 5 1 da D.length dc (D.map bv)) (hd : 6 ≤ D.length ∧ D.length ≤ 2000) {f : Nat} (hf : f < D.length)
    (hRD : D.drop f = (flat L).take m) (hL : ∀ e ∈ L, isP e) (hm : m ≤ (flat L).length) (hmm : m ≤ 100000) (hLl : L.length ≤ 1000) :
    Does Try.prog 10 #[.pointer (some (base gu)), .int .i64 (n : Int), .int .i64 (f : Int), .slice da D.length dc] w fun v w' => Res w w' gu true ((n + 1) % 256) L m v := by
  apply w10
  unfold F10
  obtain ⟨lo0, ra0, rc0, b0, o0⟩ := id h
  rw [if_neg (by simp)]
  refine ⟨_, rfl, _, b0.cell0, ?_⟩
  rw [if_neg (by simp), if_neg (by omega), if_neg (by omega), if_pos (by omega), if_pos (by omega), if_neg (by omega), if_neg (by omega)]
  refine (count_ok h n hn hx).mono ?_
  rintro _ w1 ⟨rfl, m1, h1⟩
  refine ⟨rfl, ?_⟩
  rw [if_neg (by omega)]
  rw [hs] at h1
  have oD1 : Own w1 5 1 da D.length dc (D.map bv) := oD.mod m1 (fun y hy hy' => by simp at hy'; subst hy'; exact oD.ne b0 (by decide) hy)
  obtain ⟨lo, ra, rc, b, o⟩ := id h1
  refine ⟨_, b.cell (i := 2) rfl, ?_⟩
  rw [if_neg (by simp)]
  exact jC h1 m1 oD1.rd hf (by omega) oD1.le hRD hL hm hmm hLl
end
end Go.Proofs.Ytnaomgfdcadncaa
