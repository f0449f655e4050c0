/-
  The laws of chapter 18, as contracts.
-/
import Derived.Test.YtpioadkiomcdlaaTmRef
import Derived.Test.YtpioadkiomcdlaaBurst
namespace Go.Proofs.Ytpioadkiomcdlaa
open Go Go.Sh Go.Proofs
set_option linter.unusedVariables false
set_option linter.unusedSimpArgs false

theorem tmSame_ok (f g : Tm) {a b : Option Addr} {c d : Nat} {w : World} (ha : Rd w a (f.d.map bv)) (hb : Rd w b (g.d.map bv)) : Does Try.prog 15 #[f.val a c, g.val b d] w fun v w' => v = .bool (decide (f = g)) ∧ Mod [] w w' := by
  apply w15
  unfold F15
  refine New.use fun w1 h1 m1 z1 => ?_
  refine New.use fun w2 h2 m2 z2 => ?_
  have h1 := h1.mod m2 (by simp)
  have M := m1.none m2
  have no : ∀ {P : Prop}, ¬ P → (f = g → P) → Value.bool false = Value.bool (decide (f = g)) := fun h h' => congrArg Value.bool (decide_eq_false (fun e => h (h' e))).symm
  refine ⟨_, h1.cell0, _, h2.cell0, iteI (fun e1 => ?_) (fun e1 => ⟨no e1 (fun e => by rw [e]), M⟩)⟩
  refine ⟨_, h1.cell (i := 1) rfl, _, h2.cell (i := 1) rfl, iteI (fun e2 => ?_) (fun e1 => ⟨no e1 (fun e => by rw [e]), M⟩)⟩
  refine ⟨_, h1.cell (i := 2) rfl, _, h2.cell (i := 2) rfl, iteI (fun e3 => ?_) (fun e1 => ⟨no e1 (fun e => by rw [e]), M⟩)⟩
  refine ⟨_, h1.cell (i := 3) rfl, _, h2.cell (i := 3) rfl, iteI (fun e4 => ?_) (fun e1 => ⟨no e1 (fun e => by rw [e]), M⟩)⟩
  refine ⟨_, h1.cell (i := 4) rfl, _, h2.cell (i := 4) rfl, iteI (fun e5 => ?_) (fun e1 => ⟨no e1 (fun e => by rw [e]), M⟩)⟩
  refine ⟨_, _, _, _, _, _, h1.cellsFrom (i := 6) (n := 6) (by simp), _, _, _, _, _, _, h2.cellsFrom (i := 6) (n := 6) (by simp), _, cw_eq f.cw g.cw, iteI (fun e6 => ?_) (fun e1 => ⟨no e1 (fun e => by rw [e]; simp), M⟩)⟩
  refine ⟨_, _, _, h1.cell (i := 5) rfl, _, toStr_ok c (ha.mod M (by simp)), _, _, _, h2.cell (i := 5) rfl, _, toStr_ok d (hb.mod M (by simp)), ?_, M⟩
  rw [strEq]
  refine congrArg Value.bool ?_
  obtain ⟨f1, f2, f3, f4, f5, f6, f7⟩ := f
  obtain ⟨g1, g2, g3, g4, g5, g6, g7⟩ := g
  simp only [decide_eq_true_eq] at e1 e2 e3 e4 e5 e6
  subst e1 e2 e3 e4 e5 e6
  rw [Bool.eq_iff_iff]
  simp

theorem tm_back (f : Tm) (h : f.ok = true) : tmDec f.enc = (f, 0) := by
  obtain ⟨hr, hcw⟩ := Tm.okr h
  have hl := f.enc_len
  have hc : chk16 f.enc = true := chk16_app _
  have l6 := be_len f.hd 6
  have l4 := be_len f.cw.n 4
  have h6 : f.enc.take 6 = be f.hd 6 := by
    unfold Tm.enc app16
    rw [List.append_assoc, List.append_assoc, List.take_append_of_le_length (by omega), List.take_of_length_le (by omega)]
  have hd : (f.enc.drop 6).take (f.enc.length - 12) = f.d := by
    rw [hl]
    unfold Tm.enc app16
    rw [List.append_assoc, List.append_assoc, List.drop_append_of_le_length (by omega), List.drop_of_length_le (by omega)]
    simp
  have hw : wordOf f.enc = be f.cw.n 4 := by
    unfold wordOf
    rw [hl]
    unfold Tm.enc app16
    rw [List.append_assoc, List.drop_append, List.drop_of_length_le (by rw [List.length_append]; omega), List.nil_append, List.length_append, l6, show f.d.length + 12 - 6 - (6 + f.d.length) = 0 by omega, List.drop_zero, List.take_append_of_le_length (by omega), List.take_of_length_le (by omega)]
  have e : tmOf f.enc = f := by
    unfold tmOf
    rw [hd, h6, val_be, hw, cw_back f.cw hcw]
    obtain ⟨cr, ch, ma, co, fi, d, cw⟩ := f
    simp only at hr
    clear h6 hd hc hl h hcw hw l4 l6
    unfold Tm.hd
    simp only [Tm.mk.injEq]
    refine ⟨?_, ?_, ?_, ?_, ?_, trivial, trivial⟩ <;> omega
  unfold tmDec tmOk
  rw [if_neg (by omega), if_neg (by omega), if_neg (by simp [hc]), e, hw, cw_back f.cw hcw, if_pos (by simp [h])]

theorem lives_ok (w : World) : Does Try.prog 8 #[] w fun v w' => v = .bool true ∧ Mod [] w w' := by
  apply w8
  unfold F8
  have ok1 : (Tm.mk 5 1 2 3 0 [170] Cw.zero).ok = true := by decide
  have back := tm_back _ ok1
  have hout : (Tm.mk 5 1 2 3 0 [170] Cw.zero).out = (Tm.mk 5 1 2 3 0 [170] Cw.zero).enc := by unfold Tm.out; rw [if_pos ok1]
  have herr : (Tm.mk 5 1 2 3 0 [170] Cw.zero).err = 0 := by unfold Tm.err; rw [if_pos ok1]
  have hlen : (Tm.mk 5 1 2 3 0 [170] Cw.zero).enc.length = 13 := Tm.enc_len _
  have h11 : (Tm.mk 5 1 2 3 0 [170] Cw.zero).enc.take 11 = [0, 83, 2, 3, 24, 0, 170, 1, 0, 0, 0] := by
    have e : be (Tm.mk 5 1 2 3 0 [170] Cw.zero).hd 6 ++ [170] ++ be Cw.zero.n 4 = [0, 83, 2, 3, 24, 0, 170, 1, 0, 0, 0] := by decide
    show (app16 (be (Tm.mk 5 1 2 3 0 [170] Cw.zero).hd 6 ++ [170] ++ be Cw.zero.n 4)).take 11 = _
    rw [e]
    rfl
  generalize he : (Tm.mk 5 1 2 3 0 [170] Cw.zero).enc = E at *
  have hz : (Tm.mk 5 0 0 0 0 [] Cw.zero).ok = false := by decide
  refine New.use fun w1 h1 m1 z1 => ?_
  refine New.put rfl fun w2 h2 m2 z2 => ?_
  have r2 : Rd w2 (some (base w.heap.size)) (([170] : List UInt8).map bv) := (Rd.blk h1).mod m2 (by simp)
  have M2 := m1.none m2
  refine ⟨_, _, _, _, _, _, _, _, _, _, _, _, _, _, h2.cells, ?_⟩
  refine (tmEncode_ok (Tm.mk 5 1 2 3 0 [170] Cw.zero) (some (base w.heap.size)) 1 r2).mono ?_
  rintro _ w3 ⟨x, k, rfl, r3, c3, m3, s3⟩
  have M3 := M2.none m3
  rw [hout] at r3 c3 ⊢
  rw [herr]
  refine ⟨_, _, _, _, rfl, ?_⟩
  rw [if_neg (by simp), if_neg (by rw [hlen]; simp)]
  refine (tmDecode_ok c3 r3).mono ?_
  rintro _ w4 ⟨x4, k4, rfl, o4, m4, s4⟩
  rw [back] at o4 ⊢
  refine ⟨_, _, _, _, _, _, _, _, _, _, _, _, _, _, _, rfl, ?_⟩
  refine New.put rfl fun w5 h5 m5 z5 => ?_
  have N5 := m4.none m5
  refine ⟨by omega, by omega, ?_⟩
  have hl12 : (E.take 12).length = 12 := by rw [List.length_take]; omega
  rw [show (12 : Int).toNat = (E.take 12).length by rw [hl12]; rfl]
  refine (tmDecode_ok (l := E.take 12) (by omega) (by rw [List.map_take]; exact (r3.mod N5 (by simp)).take 12)).mono ?_
  rintro _ w6 ⟨x6, k6, rfl, o6, m6, s6⟩
  have hd6 : tmDec (E.take 12) = (Tm.zero, 3) := by unfold tmDec; rw [if_pos (by omega)]
  rw [hd6]
  refine ⟨_, _, _, _, _, _, _, _, _, _, _, _, _, _, _, rfl, ?_⟩
  refine New.put rfl fun w7 h7 m7 z7 => ?_
  have N7 := (N5.none m6).none m7
  refine (tmEncode_ok (Tm.mk 5 0 0 0 0 [] Cw.zero) none 0 (w := w7) Rd.nil).mono ?_
  rintro _ w8 ⟨x8, k8, rfl, r8, c8, m8, s8⟩
  have N8 := N7.none m8
  unfold Tm.err
  rw [hz]
  refine ⟨_, _, _, _, rfl, by omega, by omega, ?_⟩
  have hl11 : (E.take 11).length = 11 := by rw [List.length_take]; omega
  rw [show (11 : Int).toNat = (E.take 11).length by rw [hl11]; rfl]
  refine ⟨_, toStr_ok k (l := E.take 11) (by rw [List.map_take]; exact (r3.mod N8 (by simp)).take 11), ?_⟩
  rw [if_pos (by rw [h11]; simp), if_pos rfl]
  have n58 : Mod [] w5 w8 := (m6.none m7).none m8
  refine ⟨_, _, _, _, _, _, _, _, _, _, _, _, _, _, (h5.mod n58 (by simp)).cells, _, _, _, _, _, _, _, _, _, _, _, _, _, _, (h2.mod (m3.none N8) (by simp)).cells, ?_⟩
  refine (tmSame_ok (Tm.mk 5 1 2 3 0 [170] Cw.zero) (Tm.mk 5 1 2 3 0 [170] Cw.zero) (o4.rd.mod (m5.none n58) (by simp)) (r2.mod (m3.none N8) (by simp))).mono ?_
  rintro _ w9 ⟨rfl, m9⟩
  refine ⟨_, rfl, ?_⟩
  rw [if_pos (by simp), if_pos rfl, if_pos (by simp)]
  refine ⟨_, _, _, _, _, _, _, _, _, _, _, _, _, _, (h2.mod ((m3.none N8).none m9) (by simp)).cells, ?_⟩
  refine (tmValid_ok (Tm.mk 5 1 2 3 0 [170] Cw.zero) (some (base w.heap.size)) 1 w9).mono ?_
  rintro _ w10 ⟨rfl, m10⟩
  refine ⟨_, rfl, ?_, ((M3.none N8).none m9).none m10⟩
  rw [ok1]
  rfl

theorem tmframeEncodes_ok (f : Tm) {a : Option Addr} {c : Nat} {w : World} (hr : Rd w a (f.d.map bv)) : Does Try.prog 3 #[f.val a c] w fun v w' => v = .bool true ∧ Mod [] w w' := by
  apply w3
  unfold F3
  have live : ∀ {w' : World}, Mod [] w w' → Does Try.prog 8 #[] w' (fun v w'' => ∃ (x : Bool), v = .bool x ∧ (Value.bool x = .bool true ∧ Mod [] w w'')) := fun M => (lives_ok _).mono fun v w' h => ⟨_, h.1, rfl, M.none h.2⟩
  refine New.use fun w1 h1 m1 _ => ?_
  refine ⟨_, _, _, h1.cell (i := 5) rfl, iteI (fun hl => live m1) (fun hl => ?_)⟩
  have r1 := hr.mod m1 (by simp)
  refine ⟨_, _, _, _, _, _, _, _, _, _, _, _, _, _, h1.cells, ?_⟩
  refine (tmEncode_ok f a c r1).mono ?_
  rintro _ w2 ⟨x2, k2, rfl, r2, c2, m2, s2⟩
  refine ⟨_, _, _, _, rfl, _, _, _, _, _, _, _, _, _, _, _, _, _, _, (h1.mod m2 (by simp)).cells, ?_⟩
  refine (tmRefEncode_ok f a c (r1.mod m2 (by simp))).mono ?_
  rintro _ w3 ⟨x3, k3, rfl, r3, c3, m3, s3⟩
  have M3 := m2.none m3
  have h3 := h1.mod M3 (by simp)
  refine ⟨_, _, _, _, rfl, _, toStr_ok k2 (r2.mod m3 (by simp)).drew, _, toStr_ok k3 r3.drew, ?_⟩
  rw [if_pos (by simp), if_pos rfl]
  have md : Mod [] w3 w3.drew := Mod.drew w3
  refine ⟨_, _, _, _, _, _, _, _, _, _, _, _, _, _, h3.drew.cells, _, _, _, _, _, _, _, _, _, _, _, _, _, _, h3.drew.cells, ?_⟩
  refine (tmValid_ok f a c _).mono ?_
  rintro _ w4 ⟨rfl, m4⟩
  refine ⟨_, rfl, (h3.drew.mod m4 (by simp)).cells, ?_⟩
  refine (tmRefValid_ok f a c _).mono ?_
  rintro _ w5 ⟨rfl, m5⟩
  refine ⟨_, rfl, ?_⟩
  rw [if_pos (by simp)]
  exact live ((((m1.none M3).none md).none m4).none m5)

theorem tmframeDecodes_ok {a : Option Addr} {l : List UInt8} {c : Nat} {w : World} (hc : l.length ≤ c) (hr : Rd w a (l.map bv)) : Does Try.prog 4 #[.slice a l.length c] w fun v w' => v = .bool true ∧ Mod [] w w' := by
  apply w4
  unfold F4
  have live : ∀ {w' : World}, Mod [] w w' → Does Try.prog 8 #[] w' (fun v w'' => ∃ (x : Bool), v = .bool x ∧ (Value.bool x = .bool true ∧ Mod [] w w'')) := fun M => (lives_ok _).mono fun v w' h => ⟨_, h.1, rfl, M.none h.2⟩
  refine iteI (fun hl => live (Mod.refl _)) (fun hl => ?_)
  refine (tmDecode_ok hc hr).mono ?_
  rintro _ w1 ⟨x1, k1, rfl, o1, m1, s1⟩
  refine ⟨_, _, _, _, _, _, _, _, _, _, _, _, _, _, _, rfl, ?_⟩
  refine New.put rfl fun w2 h2 m2 z2 => ?_
  refine (tmRefDecode_ok hc (hr.mod (m1.none m2) (by simp))).mono ?_
  rintro _ w3 ⟨x3, k3, rfl, o3, m3, s3⟩
  refine ⟨_, _, _, _, _, _, _, _, _, _, _, _, _, _, _, rfl, ?_⟩
  refine New.put rfl fun w4 h4 m4 z4 => ?_
  refine ⟨_, _, _, _, _, _, _, _, _, _, _, _, _, _, ((h2.mod m3 (by simp)).mod m4 (by simp)).cells, _, _, _, _, _, _, _, _, _, _, _, _, _, _, h4.cells, ?_⟩
  refine (tmSame_ok (tmDec l).1 (tmDec l).1 (o1.rd.mod ((m2.none m3).none m4) (by simp)) (o3.rd.mod m4 (by simp))).mono ?_
  rintro _ w5 ⟨rfl, m5⟩
  refine ⟨_, rfl, ?_⟩
  rw [if_pos (by simp), if_pos rfl]
  exact live ((((m1.none m2).none m3).none m4).none m5)
end Go.Proofs.Ytpioadkiomcdlaa
