/-
  The laws of chapter 14, as contracts: the examples, TcframeEncodes, TcframeDecodes, TcframeDirects.
-/
import Derived.Test.YtdbckjadafpenaaTcMore
import Derived.Test.YtdbckjadafpenaaChanged
namespace Go.Proofs.Ytdbckjadafpenaa
open Go Go.Sh Go.Proofs
set_option linter.unusedVariables false
set_option linter.unusedSimpArgs false

theorem tc_back (f : Tf) (h : f.ok = true) : tcDec f.enc = (f, 0) := by
  have hl : f.enc.length = f.d.length + 7 := by simp [Tf.enc, app16, be_len]; omega
  have hr := h
  simp only [Tf.ok, decide_eq_true_eq] at hr
  have hc : chk16 f.enc = true := chk16_app _
  have h5 : f.enc.take 5 = be f.hd 5 := by
    unfold Tf.enc app16
    rw [List.append_assoc, List.take_append_of_le_length (by rw [be_len]; exact Nat.le_refl _), List.take_of_length_le (by rw [be_len]; exact Nat.le_refl _)]
  have hd : (f.enc.drop 5).take (f.enc.length - 7) = f.d := by
    rw [hl]
    unfold Tf.enc app16
    rw [List.append_assoc, List.drop_append_of_le_length (by rw [be_len]; exact Nat.le_refl _), List.drop_of_length_le (by rw [be_len]; exact Nat.le_refl _)]
    simp
  have e : tfOf f.enc = f := by
    unfold tfOf
    rw [hd, h5, val_be]
    obtain ⟨bp, ct, cr, ch, sq, d⟩ := f
    simp only at hr
    clear h5 hd hc hl h
    have h1 := toNat_le1 bp
    have h2 := toNat_le1 ct
    have b := bdec
    unfold Tf.hd
    simp only [Tf.mk.injEq]
    refine ⟨?_, ?_, ?_, ?_, ?_, trivial⟩
    · rw [b bp]; congr 1; rw [eq_iff_iff, ← b bp]; omega
    · rw [b ct]; congr 1; rw [eq_iff_iff, ← b ct]; omega
    · omega
    · omega
    · omega
  unfold tcDec tfOk
  rw [if_neg (by omega), if_neg (by omega), if_neg (by simp [hc]), e, if_pos (by simp [h])]

theorem alive_ok (w : World) : Does Try.prog 8 #[] w fun v w' => v = .bool true ∧ Mod [] w w' := by
  apply w8
  unfold F8
  have ok1 : (Tf.mk false false 5 1 3 [170]).ok = true := by decide
  have en1 : (Tf.mk false false 5 1 3 [170]).enc = app16 [0, 5, 4, 7, 3, 170] := congrArg app16 (by decide)
  have ok2 : (ctl 5 1 [0]).ok = true := by decide
  have en2 : (ctl 5 1 [0]).enc = app16 [48, 5, 4, 7, 0, 0] := congrArg app16 (by decide)
  have back := tc_back _ ok1
  refine New.use fun w1 h1 m1 z1 => ?_
  refine New.put rfl fun w2 h2 m2 z2 => ?_
  have r2 : Rd w2 (some (base w.heap.size)) (([170] : List UInt8).map bv) := (Rd.blk h1).mod m2 (by simp)
  have M2 := m1.none m2
  refine ⟨_, _, _, _, _, _, _, _, h2.cells, ?_⟩
  refine (tcEncode_ok (Tf.mk false false 5 1 3 [170]) (some (base w.heap.size)) 1 r2).mono ?_
  rintro _ w3 ⟨x, k, rfl, o3, m3, s3⟩
  have M3 := M2.none m3
  refine ⟨_, _, _, _, rfl, ?_⟩
  refine (tcUnlock_ok 5 1 w3).mono ?_
  rintro _ w4 ⟨y, n, rfl, r4, m4, hn⟩
  have M4 := M3.none m4
  refine ⟨_, _, _, _, _, _, _, _, rfl, ?_⟩
  refine (tcEncode_ok (ctl 5 1 [0]) y n r4).mono ?_
  rintro _ w5 ⟨x5, k5, rfl, o5, m5, s5⟩
  have M5 := M4.none m5
  refine ⟨_, _, _, _, rfl, ?_⟩
  have hout : (Tf.mk false false 5 1 3 [170]).out = (Tf.mk false false 5 1 3 [170]).enc := by unfold Tf.out; rw [if_pos ok1]
  have hout2 : (ctl 5 1 [0]).out = (ctl 5 1 [0]).enc := by unfold Tf.out; rw [if_pos ok2]
  have he1 : (Tf.mk false false 5 1 3 [170]).err = 0 := by unfold Tf.err; rw [if_pos ok1]
  have he2 : (ctl 5 1 [0]).err = 0 := by unfold Tf.err; rw [if_pos ok2]
  rw [hout] at o3 ⊢
  rw [hout2] at o5 ⊢
  have hle := o3.le
  refine (tcDecode_ok hle (o3.rd.mod (m4.none m5) (by simp))).mono ?_
  rintro _ w6 ⟨x6, k6, rfl, o6, m6, s6⟩
  rw [back] at o6 ⊢
  have M6 := M5.none m6
  refine ⟨_, _, _, _, _, _, _, _, _, rfl, ?_⟩
  refine New.put rfl fun w7 h7 m7 z7 => ?_
  have M7 := M6.none m7
  refine (tcSet_ok 5 1 9 w7).mono ?_
  rintro _ w8 ⟨x8, k8, rfl, r8, m8, hk8⟩
  have M8 := M7.none m8
  refine ⟨_, _, _, _, _, _, _, _, rfl, ?_⟩
  refine (tcDir_ok (setF 5 1 9) r8).mono ?_
  rintro _ w9 ⟨rfl, m9⟩
  have hdir : (setF 5 1 9).dir = (1, 9, true) := by decide
  rw [hdir, he1, he2]
  refine ⟨_, _, _, rfl, ?_⟩
  have md : Mod [] w9 w9.drew := Mod.drew w9
  have M9 := (M8.none m9).none md
  have N9 : Mod [] w5 w9.drew := (((m6.none m7).none m8).none m9).none md
  rw [if_pos rfl, if_pos rfl, if_pos rfl]
  have ra : ∀ {w' : World}, Mod [] w9.drew w' → Rd w' x ((Tf.mk false false 5 1 3 [170]).enc.map bv) := fun h => ((o3.rd.mod (m4.none m5) (by simp)).mod N9 (by simp)).mod h (by simp)
  have rb : ∀ {w' : World}, Mod [] w9.drew w' → Rd w' x5 ((ctl 5 1 [0]).enc.map bv) := fun h => (o5.rd.mod N9 (by simp)).mod h (by simp)
  refine ⟨_, toStr_ok k (ra (Mod.refl _)), ?_⟩
  refine New.use fun w10 h10 m10 z10 => ?_
  refine ⟨toStr_ok k (ra m10), ?_⟩
  refine (refAppend16_ok _ [0, 5, 4, 7, 3, 170] 6 w10 (by simp) (Rd.blk h10)).mono ?_
  rintro _ w11 ⟨x11, k11, rfl, o11, m11, s11⟩
  have N11 := m10.none m11
  have el : ∀ l : List UInt8, l.length + 2 = (app16 l).length := fun l => by simp [app16]
  refine ⟨_, _, _, rfl, toStr_ok k (ra N11), _, by rw [el] at o11 ⊢; exact toStr_ok k11 o11.rd, ?_⟩
  rw [if_pos (by rw [en1]; simp)]
  refine ⟨_, toStr_ok k5 (rb N11), ?_⟩
  refine New.use fun w12 h12 m12 z12 => ?_
  have N12 := N11.none m12
  refine ⟨toStr_ok k5 (rb N12), ?_⟩
  refine (refAppend16_ok _ [48, 5, 4, 7, 0, 0] 6 w12 (by simp) (Rd.blk h12)).mono ?_
  rintro _ w13 ⟨x13, k13, rfl, o13, m13, s13⟩
  have N13 := N12.none m13
  refine ⟨_, _, _, rfl, toStr_ok k5 (rb N13), _, by rw [el] at o13 ⊢; exact toStr_ok k13 o13.rd, ?_⟩
  rw [if_pos (by rw [en2]; simp)]
  have h7' := ((h7.mod (m8.none m9) (by simp)).mod md (by simp)).mod N13 (by simp)
  have Q : Mod [] w2 w13 := ((((m3.none m4).none m5).none N9)).none N13
  refine ⟨_, _, _, _, _, _, _, _, h7'.cells, _, _, _, _, _, _, _, _, (h2.mod Q (by simp)).cells, ?_⟩
  refine (tcSame_ok (Tf.mk false false 5 1 3 [170]) (Tf.mk false false 5 1 3 [170]) (((o6.rd.mod m7 (by simp)).mod ((m8.none m9).none md) (by simp)).mod N13 (by simp)) (r2.mod Q (by simp))).mono ?_
  rintro _ w14 ⟨rfl, m14⟩
  refine ⟨_, rfl, ?_⟩
  rw [if_pos (by simp), if_pos rfl, if_pos rfl]
  exact ⟨rfl, (M9.none N13).none m14⟩

theorem tcframeEncodes_ok (f : Tf) {a : Option Addr} {c : Nat} {w : World} (hr : Rd w a (f.d.map bv)) : Does Try.prog 3 #[f.val a c] w fun v w' => v = .bool true ∧ Mod [] w w' := by
  apply w3
  unfold F3
  refine New.use fun w1 h1 m1 _ => ?_
  refine ⟨_, _, _, h1.cell (i := 5) rfl, iteI (fun hl => ?_) (fun hl => ?_)⟩
  · refine (alive_ok _).mono ?_
    rintro _ w2 ⟨rfl, m2⟩
    exact ⟨_, rfl, rfl, m1.none m2⟩
  have r1 := hr.mod m1 (by simp)
  refine ⟨_, _, _, _, _, _, _, _, h1.cells, ?_⟩
  refine (tcEncode_ok f a c r1).mono ?_
  rintro _ w2 ⟨x2, k2, rfl, o2, m2, s2⟩
  refine ⟨_, _, _, _, rfl, _, _, _, _, _, _, _, _, (h1.mod m2 (by simp)).cells, ?_⟩
  refine (tcRefEncode_ok f a c (r1.mod m2 (by simp))).mono ?_
  rintro _ w3 ⟨x3, k3, rfl, o3, m3, s3⟩
  have M3 := m2.none m3
  refine ⟨_, _, _, _, rfl, _, _, _, _, _, _, _, _, (h1.mod M3 (by simp)).cells, ?_⟩
  refine (tcDir_ok f (r1.mod M3 (by simp))).mono ?_
  rintro _ w4 ⟨rfl, m4⟩
  have M4 := M3.none m4
  refine ⟨_, _, _, rfl, _, _, _, _, _, _, _, _, (h1.mod M4 (by simp)).cells, ?_⟩
  refine (tcRefDir_ok f (r1.mod M4 (by simp))).mono ?_
  rintro _ w5 ⟨rfl, m5⟩
  have N5 : Mod [] w3 w5.drew := (m4.none m5).none (Mod.drew _)
  have M5 : Mod [] w1 w5.drew := M3.none N5
  refine ⟨_, _, _, rfl, _, _, _, _, _, _, _, _, (h1.mod M5 (by simp)).cells, _, _, _, _, _, _, _, _, (h1.mod M5 (by simp)).cells, ?_⟩
  refine (tcValid_ok f a c _).mono ?_
  rintro _ w6 ⟨rfl, m6⟩
  refine ⟨_, rfl, (h1.mod (M5.none m6) (by simp)).cells, ?_⟩
  refine (tcRefValid_ok f a c _).mono ?_
  rintro _ w7 ⟨rfl, m7⟩
  have N7 := (N5.none m6).none m7
  refine ⟨_, rfl, ?_⟩
  rw [if_pos (by simp)]
  refine ⟨_, toStr_ok k2 (o2.rd.mod (m3.none N7) (by simp)), _, toStr_ok k3 (o3.rd.mod N7 (by simp)), ?_⟩
  rw [if_pos (by rw [strEq]; simp), if_pos rfl, if_pos rfl, if_pos rfl, if_pos (by simp)]
  refine (alive_ok _).mono ?_
  rintro _ w8 ⟨rfl, m8⟩
  exact ⟨_, rfl, rfl, (m1.none (M3.none N7)).none m8⟩

theorem tcframeDecodes_ok {a : Option Addr} {l : List UInt8} {c : Nat} {w : World} (hc : l.length ≤ c) (hr : Rd w a (l.map bv)) : Does Try.prog 4 #[.slice a l.length c] w fun v w' => v = .bool true ∧ Mod [] w w' := by
  apply w4
  unfold F4
  refine iteI (fun hl => ?_) (fun hl => ?_)
  · refine (alive_ok _).mono ?_
    rintro _ w2 ⟨rfl, m2⟩
    exact ⟨_, rfl, rfl, m2⟩
  refine (tcDecode_ok hc hr).mono ?_
  rintro _ w1 ⟨x1, k1, rfl, o1, m1, s1⟩
  refine ⟨_, _, _, _, _, _, _, _, _, rfl, ?_⟩
  refine New.put rfl fun w2 h2 m2 z2 => ?_
  refine (tcRefDecode_ok hc (hr.mod (m1.none m2) (by simp))).mono ?_
  rintro _ w3 ⟨x3, k3, rfl, o3, m3, s3⟩
  refine ⟨_, _, _, _, _, _, _, _, _, rfl, ?_⟩
  refine New.put rfl fun w4 h4 m4 z4 => ?_
  refine ⟨_, _, _, _, _, _, _, _, ((h2.mod m3 (by simp)).mod m4 (by simp)).cells, _, _, _, _, _, _, _, _, h4.cells, ?_⟩
  refine (tcSame_ok (tcDec l).1 (tcDec l).1 (o1.rd.mod ((m2.none m3).none m4) (by simp)) (o3.rd.mod m4 (by simp))).mono ?_
  rintro _ w5 ⟨rfl, m5⟩
  refine ⟨_, rfl, ?_⟩
  rw [if_pos (by simp), if_pos rfl]
  refine (alive_ok _).mono ?_
  rintro _ w8 ⟨rfl, m8⟩
  exact ⟨_, rfl, rfl, ((((m1.none m2).none m3).none m4).none m5).none m8⟩

theorem dir_ctl (cr ch : Int) : (ctl cr ch [0]).dir = (0, 0, true) := rfl
theorem dir_set (cr ch nx : Int) : (setF cr ch nx).dir.2.2 = decide (0 ≤ nx ∧ nx ≤ 255) ∧ (0 ≤ nx ∧ nx ≤ 255 → (setF cr ch nx).dir.1 = 1 ∧ (setF cr ch nx).dir.2.1 = nx) := by
  unfold setF
  by_cases h : 0 ≤ nx ∧ nx ≤ 255
  · rw [if_pos h, decide_eq_true h]
    refine ⟨rfl, fun _ => ⟨rfl, ?_⟩⟩
    show ((UInt8.ofNat nx.toNat).toNat : Int) = nx
    rw [UInt8.toNat_ofNat']
    omega
  · rw [if_neg h, decide_eq_false h]
    exact ⟨rfl, fun h' => absurd h' h⟩
theorem tcframeDirects_ok (cr ch nx : Int) (w : World) : Does Try.prog 5 #[.int .i64 cr, .int .i64 ch, .int .i64 nx] w fun v w' => v = .bool true ∧ Mod [] w w' := by
  apply w5
  unfold F5
  refine (tcUnlock_ok cr ch w).mono ?_
  rintro _ w1 ⟨x1, k1, rfl, r1, m1, hk1⟩
  refine ⟨_, _, _, _, _, _, _, _, rfl, ?_⟩
  refine New.put rfl fun w2 h2 m2 z2 => ?_
  refine (tcSet_ok cr ch nx w2).mono ?_
  rintro _ w3 ⟨x3, k3, rfl, r3, m3, hk3⟩
  refine ⟨_, _, _, _, _, _, _, _, rfl, ?_⟩
  refine New.put rfl fun w4 h4 m4 z4 => ?_
  have h2 := (h2.mod m3 (by simp)).mod m4 (by simp)
  have r1 := ((r1.mod m2 (by simp)).mod m3 (by simp)).mod m4 (by simp)
  have r3 := r3.mod m4 (by simp)
  have M4 := ((m1.none m2).none m3).none m4
  refine ⟨_, _, _, _, _, _, _, _, h2.cells, ?_⟩
  refine (tcDir_ok (ctl cr ch [0]) r1).mono ?_
  rintro _ w5 ⟨rfl, m5⟩
  refine ⟨_, _, _, rfl, _, _, _, _, _, _, _, _, (h4.mod m5 (by simp)).cells, ?_⟩
  refine (tcDir_ok (setF cr ch nx) (r3.mod m5 (by simp))).mono ?_
  rintro _ w6 ⟨rfl, m6⟩
  refine ⟨_, _, _, rfl, ?_⟩
  have ds := dir_set cr ch nx
  rw [dir_ctl]
  have j : ∀ b : Bool, b = decide (0 ≤ nx ∧ nx ≤ 255) → F5_j1 (base w1.heap.size) cr ch (base w3.heap.size) nx 0 0 true (setF cr ch nx).dir.2.2 (setF cr ch nx).dir.1 (setF cr ch nx).dir.2.1 b w6 (fun v w' => v = .bool true ∧ Mod [] w w') := by
    intro b hb
    unfold F5_j1
    have N6 : Mod [] w4 w6.drew := (m5.none m6).none (Mod.drew _)
    refine ⟨_, _, _, _, _, _, _, _, (h2.mod N6 (by simp)).cells, ?_⟩
    refine (tcRefUnlock_ok cr ch w6.drew).mono ?_
    rintro _ w7 ⟨x7, k7, rfl, r7, m7, hk7⟩
    have N7 := N6.none m7
    refine ⟨_, _, _, _, _, _, _, _, rfl, (h2.mod N7 (by simp)).cells, ?_⟩
    refine (tcSame_ok (ctl cr ch [0]) (ctl cr ch [0]) (r1.mod N7 (by simp)) r7).mono ?_
    rintro _ w8 ⟨rfl, m8⟩
    have N8 := N7.none m8
    refine ⟨_, rfl, ?_⟩
    rw [if_pos (by simp)]
    refine ⟨_, _, _, _, _, _, _, _, (h4.mod N8 (by simp)).cells, ?_⟩
    refine (tcRefSet_ok cr ch nx w8).mono ?_
    rintro _ w9 ⟨x9, k9, rfl, r9, m9, hk9⟩
    have N9 := N8.none m9
    refine ⟨_, _, _, _, _, _, _, _, rfl, (h4.mod N9 (by simp)).cells, ?_⟩
    refine (tcSame_ok (setF cr ch nx) (setF cr ch nx) (r3.mod N9 (by simp)) r9).mono ?_
    rintro _ w10 ⟨rfl, m10⟩
    have M10 := M4.none (N9.none m10)
    refine ⟨_, rfl, ?_⟩
    rw [if_pos (by simp), if_pos rfl, if_pos rfl, if_pos rfl, if_pos (by rw [ds.1, hb]; simp)]
    have fin : Does Try.prog 8 #[] w10 (fun v w120 => ∃ (x121 : Bool), v = .bool x121 ∧ (Value.bool x121 = .bool true ∧ Mod [] w w120)) := (alive_ok _).mono fun v w' h => ⟨_, h.1, rfl, M10.none h.2⟩
    refine iteI (fun h => fin) (fun h => ?_)
    have hn : 0 ≤ nx ∧ nx ≤ 255 := by rw [hb] at h; simpa using h
    rw [if_pos (ds.2 hn).1, if_pos (ds.2 hn).2]
    exact fin
  refine iteI (fun h => j _ ?_) (fun h => j _ (decide_eq_false (fun h' => h h'.1)).symm)
  congr 1
  rw [eq_iff_iff]
  exact ⟨fun h' => ⟨h, h'⟩, fun h' => h'.2⟩
end Go.Proofs.Ytdbckjadafpenaa
