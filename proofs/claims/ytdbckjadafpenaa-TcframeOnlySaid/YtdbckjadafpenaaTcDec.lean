/-
  Telecommand frames: Decode, of the program and of the reference.
-/
import Derived.Test.YtdbckjadafpenaaTc
namespace Go.Proofs.Ytdbckjadafpenaa
open Go Go.Sh Go.Proofs
set_option linter.unusedVariables false
set_option linter.unusedSimpArgs false

def tfOf (l : List UInt8) : Tf := ⟨decide (val (l.take 5) / 2 ^ 37 % 2 ^ 1 = 1), decide (val (l.take 5) / 2 ^ 36 % 2 ^ 1 = 1), ((val (l.take 5) / 2 ^ 24 % 2 ^ 10 : Nat) : Int), ((val (l.take 5) / 2 ^ 18 % 2 ^ 6 : Nat) : Int), ((val (l.take 5) / 2 ^ 0 % 2 ^ 8 : Nat) : Int), (l.drop 5).take (l.length - 7)⟩
def tfOk (l : List UInt8) : Bool := (tfOf l).ok && ((tfOf l).enc == l)
def tcDec (l : List UInt8) : Tf × Int := if l.length < 8 then (Tf.zero, 3) else if 1024 < l.length then (Tf.zero, 6) else if chk16 l = false then (Tf.zero, 5) else if tfOk l then (tfOf l, 0) else (Tf.zero, 4)

theorem bdec (x : Bool) : x = decide (x.toNat = 1) := by cases x <;> rfl
theorem app16_take (x : List UInt8) : (app16 x).take ((app16 x).length - 2) = x := by
  unfold app16
  rw [List.length_append]
  simp
theorem tfOf_len {l : List UInt8} (h : 7 ≤ l.length) : (tfOf l).d.length = l.length - 7 := by simp [tfOf]; omega
theorem tf_cond {l : List UInt8} (h8 : 8 ≤ l.length) (hc : chk16 l = true) : tfOk l = decide (val (l.take 5) / 2 ^ 38 % 2 ^ 2 = 0 ∧ val (l.take 5) / 2 ^ 34 % 2 ^ 2 = 0 ∧ val (l.take 5) / 2 ^ 8 % 2 ^ 10 = l.length - 1 ∧ (tfOf l).ok = true) := by
  rw [Bool.eq_iff_iff]
  unfold tfOk
  rw [Bool.and_eq_true, beq_iff_eq, decide_eq_true_eq]
  have hv := val_lt (l.take 5)
  have hl5 : (l.take 5).length = 5 := by rw [List.length_take]; omega
  rw [hl5] at hv
  have hd : (tfOf l).hd = (decide (val (l.take 5) / 2 ^ 37 % 2 ^ 1 = 1)).toNat * 2 ^ 37 + (decide (val (l.take 5) / 2 ^ 36 % 2 ^ 1 = 1)).toNat * 2 ^ 36 + (val (l.take 5) / 2 ^ 24 % 2 ^ 10) * 2 ^ 24 + (val (l.take 5) / 2 ^ 18 % 2 ^ 6) * 2 ^ 18 + (l.length - 7 + 6) * 2 ^ 8 + val (l.take 5) / 2 ^ 0 % 2 ^ 8 := by
    unfold Tf.hd
    rw [tfOf_len (by omega)]
    rfl
  have dn : ∀ x : Nat, (decide (x % 2 ^ 1 = 1)).toNat = x % 2 ^ 1 := fun x => by
    have : x % 2 ^ 1 = 0 ∨ x % 2 ^ 1 = 1 := by omega
    rcases this with h | h <;> simp [h]
  rw [dn, dn] at hd
  unfold chk16 at hc
  rw [decide_eq_true_eq] at hc
  have hsplit : l.take (l.length - 2) = l.take 5 ++ (tfOf l).d := by
    show _ = l.take 5 ++ (l.drop 5).take (l.length - 7)
    rw [show l.length - 2 = 5 + (l.length - 7) by omega, List.take_add]
  have hbe : be (val (l.take 5)) 5 = l.take 5 := by have := be_val (l.take 5); rwa [hl5] at this
  generalize val (l.take 5) = v at *
  constructor
  · rintro ⟨hok, he⟩
    have e1 : l.take (l.length - 2) = be (tfOf l).hd 5 ++ (tfOf l).d := by
      have := app16_take (be (tfOf l).hd 5 ++ (tfOf l).d)
      rw [show app16 (be (tfOf l).hd 5 ++ (tfOf l).d) = l from he] at this
      exact this
    rw [hsplit] at e1
    have e2 := (List.append_inj e1 (by rw [hl5, be_len])).1
    have e3 : val (be v 5) = val (be (tfOf l).hd 5) := by rw [hbe, e2]
    rw [val_be, val_be, hd] at e3
    simp only [Tf.ok, decide_eq_true_eq, tfOf_len (show 7 ≤ l.length by omega)] at hok ⊢
    clear hsplit hbe hd hc e1 e2
    have hok' := hok
    refine ⟨?_, ?_, ?_, hok⟩ <;> omega
  · rintro ⟨h1, h2, h3, hok⟩
    refine ⟨hok, ?_⟩
    unfold Tf.enc
    have e : (tfOf l).hd = v := by
      rw [hd]
      clear hd hsplit hbe hc
      omega
    rw [e, hbe, ← hsplit, hc.2]

theorem ret8 {w : World} {g t : Nat} {vs : List Value} {k : Value → World → Prop} {e : Int} (f : Tf) (x : Option Addr) (c : Nat) (hb : Blk w g t vs) (hl : vs.length = 6) (hk : ∀ w', Mod [g] w w' → k (.tuple #[f.val x c, .int .i64 e]) w') :
    PutAll w (base g) (f.cells x c) (fun w8 => ∃ (r10 r11 : Bool) (r12 r13 r14 : Int) (r_a15 : Option Addr) (r_n16 r_c17 : Nat), Cells w8 (base g) 0 [.bool r10, .bool r11, .int .i64 r12, .int .i64 r13, .int .i64 r14, .slice r_a15 r_n16 r_c17] ∧ k (.tuple #[.agg #[.bool r10, .bool r11, .int .i64 r12, .int .i64 r13, .int .i64 r14, .slice r_a15 r_n16 r_c17], .int .i64 e]) w8) :=
  PutAll.use hb (by simp [hl]) fun w' hb' m' => ⟨_, _, _, _, _, _, _, _, hb'.cells, hk w' m'⟩

def DecQ (w : World) (l : List UInt8) (v : Value) (w' : World) : Prop := ∃ x k, v = .tuple #[(tcDec l).1.val x k, .int .i64 (tcDec l).2] ∧ Own w' 5 1 x (tcDec l).1.d.length k ((tcDec l).1.d.map bv) ∧ Mod [] w w' ∧ Since w (fp x)
theorem DecQ.bad {w w' : World} {l : List UInt8} {e : Int} (h : tcDec l = (Tf.zero, e)) (m : Mod [] w w') : DecQ w l (.tuple #[Tf.zero.val none 0, .int .i64 e]) w' := by
  refine ⟨none, 0, ?_, ?_, m, by simp [Since, fp]⟩
  · rw [h]
  · rw [h]; exact Own.nil

theorem tcDecode_ok {w : World} {a : Option Addr} {l : List UInt8} {c : Nat} (hc : l.length ≤ c) (hr : Rd w a (l.map bv)) : Does Try.prog 15 #[.slice a l.length c] w (DecQ w l) := by
  apply w15
  unfold F15
  refine New.use fun w1 hB m1 z1 => ?_
  have m1' : ∀ {w' : World}, Mod [w.heap.size] w1 w' → Mod [] w w' := fun h => m1.trans h (fun x hx => .inr (by simp at hx; omega))
  by_cases h8 : l.length < 8
  · rw [if_pos (by omega)]
    exact ret8 Tf.zero none 0 hB rfl fun w' m' => DecQ.bad (by unfold tcDec; rw [if_pos h8]) (m1' m')
  rw [if_neg (by omega)]
  by_cases h24 : 1024 < l.length
  · rw [if_pos (by omega)]
    exact ret8 Tf.zero none 0 hB rfl fun w' m' => DecQ.bad (by unfold tcDec; rw [if_neg h8, if_pos h24]) (m1' m')
  rw [if_neg (by omega)]
  refine (check16_ok a l c w1 (by omega) hc (hr.mod m1 (by simp))).mono ?_
  rintro _ _ ⟨rfl, rfl⟩
  refine ⟨_, rfl, ?_⟩
  have md := Mod.drew (S := []) w1
  have hB := hB.drew
  have m1 := m1.none md
  have z1 : w1.drew.heap.size = w.heap.size + 1 := z1
  generalize w1.drew = w1 at *
  clear md
  have m1' : ∀ {w' : World}, Mod [w.heap.size] w1 w' → Mod [] w w' := fun h => m1.trans h (fun x hx => .inr (by simp at hx; omega))
  by_cases hck : chk16 l = false
  · rw [if_pos (by simpa using hck)]
    exact ret8 Tf.zero none 0 hB rfl fun w' m' => DecQ.bad (by unfold tcDec; rw [if_neg h8, if_neg h24, if_pos hck]) (m1' m')
  have hck' : chk16 l = true := by simpa using hck
  rw [if_neg (by simp [hck'])]
  have hl5 : (l.take 5).length = 5 := by rw [List.length_take]; omega
  have nv : ∀ p k, p + k ≤ 40 → num l p k = val (l.take 5) / 2 ^ (40 - p - k) % 2 ^ k := fun p k h => by rw [num_take l 5 p k (by omega), num_val _ p k (by omega), hl5]
  have hdec : tcDec l = if tfOk l then (tfOf l, 0) else (Tf.zero, 4) := by unfold tcDec; rw [if_neg h8, if_neg h24, if_neg hck]
  have hcond := tf_cond (show 8 ≤ l.length by omega) hck'
  have hfl := tfOf_len (show 7 ≤ l.length by omega)
  refine (newReader_ok a l c w1 (by omega) (hr.mod m1 (by simp))).mono ?_
  rintro _ w2 ⟨g, S, rfl, r2, s2, m2⟩
  have M2 := m1.none m2
  have hb2 := hB.mod m2 (by simp)
  have gS : g ∈ S := by obtain ⟨_, _, e, _⟩ := r2; rw [e]; simp
  have hS : w.heap.size ∉ S := fun h => by have := s2 _ h; omega
  have since : ∀ x ∈ S, w.heap.size ≤ x := fun x hx => by have := s2 x hx; omega
  have gw : ∀ x ∈ [g], x ∈ ([] : List Nat) ∨ w.heap.size ≤ x := fun x hx => .inr (by simp at hx; subst hx; exact since _ gS)
  have ng : w.heap.size ∉ [g] := by simp; intro e; exact hS (e ▸ gS)
  refine ⟨_, rfl, ?_⟩
  refine (r2.getN (by omega) 2 (by omega) (by omega)).mono ?_
  rintro _ w3 ⟨rfl, m3, r3⟩
  have M3 := M2.trans m3 gw
  have hb3 := hb2.mod m3 ng
  refine ⟨_, rfl, ?_⟩
  refine (r3.getN (by omega) 1 (by omega) (by omega)).mono ?_
  rintro _ w4 ⟨rfl, m4, r4⟩
  have M4 := M3.trans m4 gw
  have hb4 := hb3.mod m4 ng
  refine ⟨_, rfl, ?_⟩
  refine (r4.getN (by omega) 1 (by omega) (by omega)).mono ?_
  rintro _ w5 ⟨rfl, m5, r5⟩
  have M5 := M4.trans m5 gw
  have hb5 := hb4.mod m5 ng
  refine ⟨_, rfl, ?_⟩
  refine New.use fun w6 hq6 m6 z6 => ?_
  refine PutAll.use hq6 rfl fun w7 hq7 m7 => ?_
  have hlt := r5.lt
  have z5 := M5.size
  have qS : w5.heap.size ∉ S := fun h => by have := hlt _ h; omega
  have M6 := M5.none m6
  have nq : w.heap.size ≠ w5.heap.size := by have := hb5.lt; omega
  have hb7 := (hb5.mod m6 (by simp)).mod m7 (by simpa using nq)
  have I7 : RB w w7 g S l (0 + 2 + 1 + 1) w5.heap.size 24 _ := ⟨(r5.mod m6 (by simp)).mod m7 (fun x hx hx' => by simp at hx'; subst hx'; exact qS hx), hq7, qS, fun x hx => by rcases List.mem_cons.1 hx with rfl | hx; omega; exact since x hx, M6.trans m7 (fun x hx => .inr (by simp at hx; omega))⟩
  have gm : ∀ {w1 w2 : World}, Mod [g] w1 w2 → Mod (w5.heap.size :: S) w1 w2 := fun h => h.weaken (fun x hx => .inl (by simp at hx; subst hx; simp [gS]))
  have qm : ∀ {w1 w2 : World}, Mod [w5.heap.size] w1 w2 → Mod (w5.heap.size :: S) w1 w2 := fun h => h.weaken (fun x hx => .inl (by simp at hx; subst hx; simp))
  have put : ∀ {w' : World} {p : Nat} {vs : List Value}, RB w w' g S l p w5.heap.size 24 vs → ∀ {w'' : World} {us : List Value}, Blk w'' w5.heap.size 24 us → Mod [w5.heap.size] w' w'' → RB w w'' g S l p w5.heap.size 24 us := fun I _ _ hq hm =>
    { I with r := I.r.mod hm (fun x hx hx' => by simp at hx'; subst hx'; exact qS hx), b := hq, m := I.m.trans hm (fun x hx => .inr (by simp at hx; omega)) }
  refine (I7.r.getN (by omega) 2 (by omega) (by omega)).mono ?_
  rintro _ w8 ⟨rfl, m8, r8⟩
  have I8 := I7.step m8 r8
  have N8 := gm m8
  refine ⟨_, rfl, ?_⟩
  refine (I8.r.getN (by omega) 10 (by omega) (by omega)).mono ?_
  rintro _ w9 ⟨rfl, m9, r9⟩
  have I9 := I8.step m9 r9
  have N9 := N8.same (gm m9)
  refine ⟨_, rfl, ?_⟩
  refine (I9.r.getN (by omega) 6 (by omega) (by omega)).mono ?_
  rintro _ w10 ⟨rfl, m10, r10⟩
  have I10 := I9.step m10 r10
  have N10 := N9.same (gm m10)
  refine ⟨_, rfl, ?_⟩
  refine Put.use I10.b (by simp) fun w11 hq11 m11 => ?_
  have I11 := put I10 hq11 m11
  have N11 := N10.same (qm m11)
  refine Put.use I11.b (by simp) fun w12 hq12 m12 => ?_
  have I12 := put I11 hq12 m12
  have N12 := N11.same (qm m12)
  refine (I12.r.getN (by omega) 10 (by omega) (by omega)).mono ?_
  rintro _ w13 ⟨rfl, m13, r13⟩
  have I13 := I12.step m13 r13
  have N13 := N12.same (gm m13)
  refine ⟨_, rfl, ?_⟩
  refine (I13.r.getN (by omega) 8 (by omega) (by omega)).mono ?_
  rintro _ w14 ⟨rfl, m14, r14⟩
  have I14 := I13.step m14 r14
  have N14 := N13.same (gm m14)
  refine ⟨_, rfl, ?_⟩
  refine Put.use I14.b (by simp) fun w15 hq15 m15 => ?_
  have I15 := put I14 hq15 m15
  have N15 := N14.same (qm m15)
  have e2 : IntKind.i64.wrap ((l.length : Int) - 2) = ((l.length - 2 : Nat) : Int) := by rw [wi64 (by omega)]; omega
  rw [e2]
  refine ⟨by omega, by omega, by omega, ?_⟩
  have hcut := ((hr.mod I15.m (by simp)).cut (c := c) (l := 5) (z := 1) (by simp; omega)).take (l.length - 7)
  rw [Nat.mul_one, ← List.map_drop, ← List.map_take] at hcut
  have hlen : ((l.length - 2 : Nat) : Int).toNat - (5 : Int).toNat = ((l.drop 5).take (l.length - 7)).length := by
    rw [List.length_take, List.length_drop]
    show (l.length - 2) - 5 = _
    omega
  rw [hlen]
  refine (clone_ok _ ((l.drop 5).take (l.length - 7)) _ _ hcut (by rw [← hlen]; show (l.length - 2) - 5 ≤ _; omega)).mono ?_
  rintro _ w16 ⟨x, k, rfl, ho, m16, f16⟩
  have I16 := I15.mod m16
  have N16 := N15.none m16
  refine ⟨_, _, _, rfl, ?_⟩
  have hne := ho.ne I16.b (by decide)
  refine Put.use I16.b (by simp) fun w17 hq17 m17 => ?_
  have M17 : Mod [] w w17 := I16.m.trans m17 (fun x hx => .inr (by simp at hx; omega))
  have N17 := N16.same (qm m17)
  have hb17 : Blk w17 w.heap.size 24 _ := hb7.mod N17 (by simp; exact ⟨nq, hS⟩)
  have ho17 := ho.mod m17 (fun y hy hy' => by simp at hy'; subst hy'; exact hne hy)
  have sx : Since w (fp x) := fun y hy => by have := f16 y hy; have := I15.m.size; omega
  have z15 := I15.b.lt
  clear I7 I8 I9 I10 I11 I12 I13 I14 I15 I16 N8 N9 N10 N11 N12 N13 N14 N15 N16 N17 gm qm put
  simp only [nv 0 2 (by omega), nv (0 + 2) 1 (by omega), nv (0 + 2 + 1) 1 (by omega), nv (0 + 2 + 1 + 1) 2 (by omega), nv (0 + 2 + 1 + 1 + 2) 10 (by omega), nv (0 + 2 + 1 + 1 + 2 + 10) 6 (by omega), nv (0 + 2 + 1 + 1 + 2 + 10 + 6) 10 (by omega), nv (0 + 2 + 1 + 1 + 2 + 10 + 6 + 10) 8 (by omega)] at hq17 ⊢
  have e : ∀ x y : Nat, y ≤ 16 → IntKind.i64.wrap ((x % 2 ^ y : Nat) : Int) = ((x % 2 ^ y : Nat) : Int) := fun x y hy => by
    have : x % 2 ^ y < 2 ^ y := Nat.mod_lt _ (Nat.two_pow_pos y)
    have : 2 ^ y ≤ 2 ^ 16 := Nat.pow_le_pow_right (by decide) hy
    rw [wi64 (by omega)]
  have d1 : ∀ x : Nat, decide (((x % 2 ^ 1 : Nat) : Int) = 1) = decide (x % 2 ^ 1 = 1) := fun x => by congr 1; rw [eq_iff_iff]; omega
  have hq : Blk w17 w5.heap.size 24 ((tfOf l).cells x k) := by
    simp only [List.set_cons_succ, List.set_cons_zero, e _ _ (show 10 ≤ 16 by decide), e _ _ (show 6 ≤ 16 by decide), e _ _ (show 8 ≤ 16 by decide), d1] at hq17
    exact hq17
  clear hq17
  have j1 : ∀ (b : Bool) {w' : World}, b = !tfOk l → Mod [] w17 w' → F15_j1 (base w.heap.size) (base w5.heap.size) b w' (DecQ w l) := by
    intro b w' hb m'
    unfold F15_j1
    have M' := M17.none m'
    subst hb
    cases hk : tfOk l with
    | true =>
      rw [if_neg (by simp)]
      refine ⟨_, _, _, _, _, _, _, _, (hq.mod m' (by simp)).cells, ret8 (tfOf l) x k (hb17.mod m' (by simp)) rfl fun w'' m'' => ?_⟩
      have hM : Mod [] w w'' := M'.trans m'' (fun y hy => .inr (by simp at hy; omega))
      have hon : ∀ y ∈ fp x, y ∉ [w.heap.size] := fun y hy hy' => by
        simp at hy'
        have := f16 y hy
        have := hb5.lt
        omega
      unfold DecQ
      rw [hdec, if_pos hk]
      exact ⟨x, k, rfl, (ho17.mod m' (by simp)).mod m'' hon, hM, sx⟩
    | false =>
      rw [if_pos (by simp)]
      exact ret8 Tf.zero none 0 (hb17.mod m' (by simp)) rfl fun w'' m'' => DecQ.bad (by rw [hdec, if_neg (by simp [hk])]) (M'.trans m'' (fun y hy => .inr (by simp at hy; omega)))
  have e1 : IntKind.i64.wrap ((l.length : Int) - 1) = ((l.length - 1 : Nat) : Int) := by rw [wi64 (by omega)]; omega
  rw [e1, e _ _ (show 10 ≤ 16 by decide)]
  refine iteI (fun h => j1 _ ?_ (Mod.refl _)) (fun h1 => ?_)
  · rw [hcond]; symm; simp only [Bool.not_eq_true', decide_eq_false_iff_not]; intro ⟨h', _⟩; omega
  refine iteI (fun h => j1 _ ?_ (Mod.refl _)) (fun h2 => ?_)
  · rw [hcond]; symm; simp only [Bool.not_eq_true', decide_eq_false_iff_not]; intro ⟨_, h', _⟩; omega
  refine iteI (fun h => j1 _ ?_ (Mod.refl _)) (fun h3 => ?_)
  · rw [hcond]; symm; simp only [Bool.not_eq_true', decide_eq_false_iff_not]; intro ⟨_, _, h', _⟩; omega
  refine ⟨_, _, _, _, _, _, _, _, hq.cells, ?_⟩
  refine (tcValid_ok (tfOf l) x k w17).mono ?_
  rintro _ w18 ⟨rfl, m18⟩
  refine ⟨_, rfl, j1 _ ?_ m18⟩
  rw [hcond]
  congr 1
  rw [Bool.eq_iff_iff, decide_eq_true_eq]
  constructor
  · intro h; exact ⟨by omega, by omega, by omega, h⟩
  · intro h; exact h.2.2.2
end Go.Proofs.Ytdbckjadafpenaa
