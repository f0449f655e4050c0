/-
  Telemetry frames: Decode of the program.
-/
import Derived.Test.YtpioadkiomcdlaaTm
import Derived.Test.YtpioadkiomcdlaaBytesEq
import Derived.Test.YtpioadkiomcdlaaBurst
namespace Go.Proofs.Ytpioadkiomcdlaa
open Go Go.Sh Go.Proofs
set_option linter.unusedVariables false
set_option linter.unusedSimpArgs false

def wordOf (l : List UInt8) : List UInt8 := (l.drop (l.length - 6)).take 4
def tmOf (l : List UInt8) : Tm := ⟨((val (l.take 6) / 2 ^ 36 % 2 ^ 10 : Nat) : Int), ((val (l.take 6) / 2 ^ 33 % 2 ^ 3 : Nat) : Int), ((val (l.take 6) / 2 ^ 24 % 2 ^ 8 : Nat) : Int), ((val (l.take 6) / 2 ^ 16 % 2 ^ 8 : Nat) : Int), ((val (l.take 6) / 2 ^ 0 % 2 ^ 11 : Nat) : Int), (l.drop 6).take (l.length - 12), (cwDec (wordOf l)).1⟩
def tmOk (l : List UInt8) : Bool := decide ((cwDec (wordOf l)).2 = 0) && ((tmOf l).ok && ((tmOf l).enc == l))
def tmDec (l : List UInt8) : Tm × Int := if l.length < 13 then (Tm.zero, 3) else if 1024 < l.length then (Tm.zero, 6) else if chk16 l = false then (Tm.zero, 5) else if tmOk l then (tmOf l, 0) else (Tm.zero, 4)
theorem tmOf_len {l : List UInt8} (h : 12 ≤ l.length) : (tmOf l).d.length = l.length - 12 := by simp [tmOf]; omega
theorem wordOf_len {l : List UInt8} (h : 6 ≤ l.length) : (wordOf l).length = 4 := by simp [wordOf]; omega

theorem ret12 {w : World} {g t : Nat} {vs : List Value} {k : Value → World → Prop} {e : Int} (f : Tm) (x : Option Addr) (c : Nat) (hb : Blk w g t vs) (hl : vs.length = 12) (hk : ∀ w', Mod [g] w w' → k (.tuple #[f.val x c, .int .i64 e]) w') :
    PutAll w (base g) (f.cells x c) (fun w8 => ∃ (r10 r11 r12 r13 r14 : Int) (r_a15 : Option Addr) (r_n16 r_c17 : Nat) (r18 : Int) (r19 r20 r21 : Bool) (r22 r23 : Int), Cells w8 (base g) 0 [.int .i64 r10, .int .i64 r11, .int .i64 r12, .int .i64 r13, .int .i64 r14, .slice r_a15 r_n16 r_c17, .int .i64 r18, .bool r19, .bool r20, .bool r21, .int .i64 r22, .int .i64 r23] ∧ k (.tuple #[.agg #[.int .i64 r10, .int .i64 r11, .int .i64 r12, .int .i64 r13, .int .i64 r14, .slice r_a15 r_n16 r_c17, .int .i64 r18, .bool r19, .bool r20, .bool r21, .int .i64 r22, .int .i64 r23], .int .i64 e]) w8) :=
  PutAll.use hb (by simp [hl]) fun w' hb' m' => ⟨_, _, _, _, _, _, _, _, _, _, _, _, _, _, hb'.cells, hk w' m'⟩

def DecQ (w : World) (l : List UInt8) (v : Value) (w' : World) : Prop := ∃ x k, v = .tuple #[(tmDec l).1.val x k, .int .i64 (tmDec l).2] ∧ Own w' 5 1 x (tmDec l).1.d.length k ((tmDec l).1.d.map bv) ∧ Mod [] w w' ∧ Since w (fp x)
theorem DecQ.bad {w w' : World} {l : List UInt8} {e : Int} (h : tmDec l = (Tm.zero, e)) (m : Mod [] w w') : DecQ w l (.tuple #[Tm.zero.val none 0, .int .i64 e]) w' := by
  refine ⟨none, 0, ?_, ?_, m, by simp [Since, fp]⟩
  · rw [h]
  · rw [h]; exact Own.nil

theorem bytesClone_ok {w : World} {a : Option Addr} {l : List UInt8} (c : Nat) (hl : l.length ≤ 1000000) (ha : a ≠ none) (hr : Rd w a (l.map bv)) : Does Try.prog 33 #[.slice a l.length c] w fun v w' => ∃ x k, v = .slice x l.length k ∧ Own w' 5 1 x l.length k (l.map bv) ∧ Mod [] w w' ∧ ∀ y ∈ fp x, w.heap.size ≤ y := by
  apply w33
  unfold F33
  rw [if_neg (by cases a; exact absurd rfl ha; simp)]
  refine New.use fun w1 h1 m1 z1 => ?_
  obtain ⟨x, k, w2, run2, o2, m2, f2⟩ := app_bytes (l := []) (k := 0) (c := c) (Own.blk (n := 0) h1 rfl (by decide)) (hr.mod m1 (by simp)) (by simpa using hl)
  rw [List.nil_append] at run2 o2
  refine ⟨_, _, _, w2, run2, x, k, rfl, o2, m1.trans m2 (fun y hy => .inr (by simp [fp, base] at hy; omega)), fun y hy => ?_⟩
  rcases f2 with h | h <;> rw [h] at hy <;> simp [fp, base] at hy <;> omega

theorem wrapMod (x y : Nat) (hy : y ≤ 16) : IntKind.i64.wrap ((x % 2 ^ y : Nat) : Int) = ((x % 2 ^ y : Nat) : Int) := by
  have : x % 2 ^ y < 2 ^ y := Nat.mod_lt _ (Nat.two_pow_pos y)
  have : 2 ^ y ≤ 2 ^ 16 := Nat.pow_le_pow_right (by decide) hy
  rw [wi64 (by omega)]
theorem cut_some {p : Addr} {c l z : Nat} : cutA (some p) c l z ≠ none := by unfold cutA; split <;> simp

theorem tmDecode_ok {w : World} {a : Option Addr} {l : List UInt8} {c : Nat} (hc : l.length ≤ c) (hr : Rd w a (l.map bv)) : Does Try.prog 13 #[.slice a l.length c] w (DecQ w l) := by
  apply w13
  unfold F13
  refine New.use fun w1 hB m1 z1 => ?_
  have m1' : ∀ {w' : World}, Mod [w.heap.size] w1 w' → Mod [] w w' := fun h => m1.trans h (fun x hx => .inr (by simp at hx; omega))
  by_cases h8 : l.length < 13
  · rw [if_pos (by omega)]
    exact ret12 Tm.zero none 0 hB rfl fun w' m' => DecQ.bad (by unfold tmDec; rw [if_pos h8]) (m1' m')
  rw [if_neg (by omega)]
  by_cases h24 : 1024 < l.length
  · rw [if_pos (by omega)]
    exact ret12 Tm.zero none 0 hB rfl fun w' m' => DecQ.bad (by unfold tmDec; rw [if_neg h8, if_pos h24]) (m1' m')
  rw [if_neg (by omega)]
  refine (check16_ok a l c w1 (by omega) hc (hr.mod m1 (by simp))).mono ?_
  rintro _ _ ⟨rfl, rfl⟩
  refine ⟨_, rfl, ?_⟩
  have md := Mod.drew (S := []) w1
  have hB := hB.drew
  have m1 := m1.none md
  have z1 : w1.drew.heap.size = w.heap.size + 1 := z1
  generalize w1.drew = w1 at *
  clear md
  have m1' : ∀ {w' : World}, Mod [w.heap.size] w1 w' → Mod [] w w' := fun h => m1.trans h (fun x hx => .inr (by simp at hx; omega))
  by_cases hck : chk16 l = false
  · rw [if_pos (by simpa using hck)]
    exact ret12 Tm.zero none 0 hB rfl fun w' m' => DecQ.bad (by unfold tmDec; rw [if_neg h8, if_neg h24, if_pos hck]) (m1' m')
  have hck' : chk16 l = true := by simpa using hck
  rw [if_neg (by simp [hck'])]
  have hl6 : (l.take 6).length = 6 := by rw [List.length_take]; omega
  have nv : ∀ p k, p + k ≤ 48 → num (l.take 6) p k = val (l.take 6) / 2 ^ (48 - p - k) % 2 ^ k := fun p k h => by rw [num_val _ p k (by omega), hl6]
  have hdec : tmDec l = if tmOk l then (tmOf l, 0) else (Tm.zero, 4) := by unfold tmDec; rw [if_neg h8, if_neg h24, if_neg hck]
  have hfl := tmOf_len (show 12 ≤ l.length by omega)
  have hwl := wordOf_len (show 6 ≤ l.length by omega)
  refine ⟨by omega, by omega, ?_⟩
  rw [show (6 : Int).toNat = (l.take 6).length by rw [hl6]; rfl]
  refine (newReader_ok a (l.take 6) c w1 (by omega) (by rw [List.map_take]; exact (hr.mod m1 (by simp)).take 6)).mono ?_
  rw [show (l.take 6).length = (6 : Int).toNat by rw [hl6]; rfl]
  rintro _ w2 ⟨g, S, rfl, r2, s2, m2⟩
  have M2 := m1.none m2
  have hb2 := hB.mod m2 (by simp)
  have gS : g ∈ S := by obtain ⟨_, _, e, _⟩ := r2; rw [e]; simp
  have hS : w.heap.size ∉ S := fun h => by have := s2 _ h; omega
  have since : ∀ x ∈ S, w.heap.size ≤ x := fun x hx => by have := s2 x hx; omega
  have gw : ∀ x ∈ [g], x ∈ ([] : List Nat) ∨ w.heap.size ≤ x := fun x hx => .inr (by simp at hx; subst hx; exact since _ gS)
  have ng : w.heap.size ∉ [g] := by simp; intro e; exact hS (e ▸ gS)
  refine ⟨_, rfl, ?_⟩
  refine (r2.skipN (by omega) 2 (by omega)).mono ?_
  rintro _ w3 ⟨rfl, m3, r3⟩
  have M3 := M2.trans m3 gw
  have hb3 := hb2.mod m3 ng
  refine ⟨rfl, ?_⟩
  refine (r3.getN (by omega) 10 (by omega) (by omega)).mono ?_
  rintro _ w4 ⟨rfl, m4, r4⟩
  have M4 := M3.trans m4 gw
  have hb4 := hb3.mod m4 ng
  refine ⟨_, rfl, ?_⟩
  refine (r4.getN (by omega) 3 (by omega) (by omega)).mono ?_
  rintro _ w5 ⟨rfl, m5, r5⟩
  have M5 := M4.trans m5 gw
  have hb5 := hb4.mod m5 ng
  refine ⟨_, rfl, ?_⟩
  refine New.use fun w6 hq6 m6 z6 => ?_
  refine PutAll.use hq6 rfl fun w7 hq7 m7 => ?_
  have hlt := r5.lt
  have z5 := M5.size
  have qS : w5.heap.size ∉ S := fun h => by have := hlt _ h; omega
  have M6 := M5.none m6
  have nq : w.heap.size ≠ w5.heap.size := by have := hb5.lt; omega
  have hb7 := (hb5.mod m6 (by simp)).mod m7 (by simpa using nq)
  have I7 : RB w w7 g S (l.take 6) (0 + 2 + 10 + 3) w5.heap.size 26 _ := ⟨(r5.mod m6 (by simp)).mod m7 (fun x hx hx' => by simp at hx'; subst hx'; exact qS hx), hq7, qS, fun x hx => by rcases List.mem_cons.1 hx with rfl | hx; omega; exact since x hx, M6.trans m7 (fun x hx => .inr (by simp at hx; omega))⟩
  have gm : ∀ {w1 w2 : World}, Mod [g] w1 w2 → Mod (w5.heap.size :: S) w1 w2 := fun h => h.weaken (fun x hx => .inl (by simp at hx; subst hx; simp [gS]))
  have qm : ∀ {w1 w2 : World}, Mod [w5.heap.size] w1 w2 → Mod (w5.heap.size :: S) w1 w2 := fun h => h.weaken (fun x hx => .inl (by simp at hx; subst hx; simp))
  have put : ∀ {w' : World} {p : Nat} {vs : List Value}, RB w w' g S (l.take 6) p w5.heap.size 26 vs → ∀ {w'' : World} {us : List Value}, Blk w'' w5.heap.size 26 us → Mod [w5.heap.size] w' w'' → RB w w'' g S (l.take 6) p w5.heap.size 26 us := fun I _ _ hq hm =>
    { I with r := I.r.mod hm (fun x hx hx' => by simp at hx'; subst hx'; exact qS hx), b := hq, m := I.m.trans hm (fun x hx => .inr (by simp at hx; omega)) }
  refine (I7.r.skipN (by omega) 1 (by omega)).mono ?_
  rintro _ w8 ⟨rfl, m8, r8⟩
  have I8 := I7.step m8 r8
  have N8 := gm m8
  refine ⟨rfl, ?_⟩
  refine (I8.r.getN (by omega) 8 (by omega) (by omega)).mono ?_
  rintro _ w9 ⟨rfl, m9, r9⟩
  have I9 := I8.step m9 r9
  have N9 := N8.same (gm m9)
  refine ⟨_, rfl, ?_⟩
  refine Put.use I9.b (by simp) fun w10 hq10 m10 => ?_
  have I10 := put I9 hq10 m10
  have N10 := N9.same (qm m10)
  refine (I10.r.getN (by omega) 8 (by omega) (by omega)).mono ?_
  rintro _ w11 ⟨rfl, m11, r11⟩
  have I11 := I10.step m11 r11
  have N11 := N10.same (gm m11)
  refine ⟨_, rfl, ?_⟩
  refine Put.use I11.b (by simp) fun w12 hq12 m12 => ?_
  have I12 := put I11 hq12 m12
  have N12 := N11.same (qm m12)
  refine (I12.r.skipN (by omega) 5 (by omega)).mono ?_
  rintro _ w13 ⟨rfl, m13, r13⟩
  have I13 := I12.step m13 r13
  have N13 := N12.same (gm m13)
  refine ⟨rfl, ?_⟩
  refine (I13.r.getN (by omega) 11 (by omega) (by omega)).mono ?_
  rintro _ w14 ⟨rfl, m14, r14⟩
  have I14 := I13.step m14 r14
  have N14 := N13.same (gm m14)
  refine ⟨_, rfl, ?_⟩
  refine Put.use I14.b (by simp) fun w15 hq15 m15 => ?_
  have I15 := put I14 hq15 m15
  have N15 := N14.same (qm m15)
  have e6 : IntKind.i64.wrap ((l.length : Int) - 6) = ((l.length - 6 : Nat) : Int) := by rw [wi64 (by omega)]; omega
  have e2 : IntKind.i64.wrap ((l.length : Int) - 2) = ((l.length - 2 : Nat) : Int) := by rw [wi64 (by omega)]; omega
  rw [e6, e2]
  refine ⟨by omega, by omega, by omega, ?_⟩
  obtain ⟨p, rfl, _⟩ := rd_get hr (i := 0) (by omega)
  have hcut := ((hr.mod I15.m (by simp)).cut (c := c) (l := 6) (z := 1) (by simp; omega)).take (l.length - 12)
  rw [Nat.mul_one, ← List.map_drop, ← List.map_take] at hcut
  have hlen : ((l.length - 6 : Nat) : Int).toNat - (6 : Int).toNat = ((l.drop 6).take (l.length - 12)).length := by
    rw [List.length_take, List.length_drop]
    show (l.length - 6) - 6 = _
    omega
  rw [hlen]
  refine (bytesClone_ok (l := (l.drop 6).take (l.length - 12)) _ (by rw [← hlen]; show (l.length - 6) - 6 ≤ _; omega) cut_some hcut).mono ?_
  rintro _ w16 ⟨x, k, rfl, ho, m16, f16⟩
  have I16 := I15.mod m16
  have N16 := N15.none m16
  refine ⟨_, _, _, rfl, ?_⟩
  have hne := ho.ne I16.b (by decide)
  refine Put.use I16.b (by simp) fun w17 hq17 m17 => ?_
  have M17 : Mod [] w w17 := I16.m.trans m17 (fun x hx => .inr (by simp at hx; omega))
  have N17 := N16.same (qm m17)
  have hb17 : Blk w17 w.heap.size 26 _ := hb7.mod N17 (by simp; exact ⟨nq, hS⟩)
  have ho17 := ho.mod m17 (fun y hy hy' => by simp at hy'; subst hy'; exact hne hy)
  have sx : Since w (fp x) := fun y hy => by have := f16 y hy; have := I15.m.size; omega
  have z15 := I15.b.lt
  clear I7 I8 I9 I10 I11 I12 I13 I14 I15 I16 N8 N9 N10 N11 N12 N13 N14 N15 N16 N17 gm qm put
  simp only [nv (0 + 2) 10 (by omega), nv (0 + 2 + 10) 3 (by omega), nv (0 + 2 + 10 + 3 + 1) 8 (by omega), nv (0 + 2 + 10 + 3 + 1 + 8) 8 (by omega), nv (0 + 2 + 10 + 3 + 1 + 8 + 8 + 5) 11 (by omega)] at hq17
  have hq : Blk w17 w5.heap.size 26 (({ tmOf l with cw := Cw.zero } : Tm).cells x k) := by
    simp only [List.set_cons_succ, List.set_cons_zero, wrapMod _ _ (show 10 ≤ 16 by decide), wrapMod _ _ (show 3 ≤ 16 by decide), wrapMod _ _ (show 8 ≤ 16 by decide), wrapMod _ _ (show 11 ≤ 16 by decide)] at hq17
    exact hq17
  clear hq17
  refine ⟨by omega, by omega, by omega, ?_⟩
  have hcw := ((hr.mod M17 (by simp)).cut (c := c) (l := l.length - 6) (z := 1) (by simp; omega)).take 4
  rw [Nat.mul_one, ← List.map_drop, ← List.map_take] at hcw
  have hwlen : ((l.length - 2 : Nat) : Int).toNat - ((l.length - 6 : Nat) : Int).toNat = (wordOf l).length := by rw [hwl]; omega
  rw [hwlen, Int.toNat_natCast]
  refine (cwDecode_ok (l := wordOf l) _ hcw).mono ?_
  rintro _ w18 ⟨rfl, m18⟩
  refine ⟨_, _, _, _, _, _, _, rfl, ?_⟩
  refine New.put rfl fun w19 h19 m19 z19 => ?_
  have m1819 := m18.none m19
  have M19 := M17.none m1819
  have hb19 := hb17.mod m1819 (by simp)
  have hq19 := hq.mod m1819 (by simp)
  have ho19 := ho17.mod m1819 (by simp)
  have nx : ∀ y ∈ fp x, y ≠ w.heap.size ∧ y ≠ w5.heap.size := fun y hy => by have := f16 y hy; have := hb5.lt; omega
  have bad : ∀ {w' : World}, tmOk l = false → Mod [] w19 w' → PutAll w' (base w.heap.size) (Tm.zero.cells none 0) (fun w8 => ∃ (r10 r11 r12 r13 r14 : Int) (r_a15 : Option Addr) (r_n16 r_c17 : Nat) (r18 : Int) (r19 r20 r21 : Bool) (r22 r23 : Int), Cells w8 (base w.heap.size) 0 [.int .i64 r10, .int .i64 r11, .int .i64 r12, .int .i64 r13, .int .i64 r14, .slice r_a15 r_n16 r_c17, .int .i64 r18, .bool r19, .bool r20, .bool r21, .int .i64 r22, .int .i64 r23] ∧ DecQ w l (.tuple #[.agg #[.int .i64 r10, .int .i64 r11, .int .i64 r12, .int .i64 r13, .int .i64 r14, .slice r_a15 r_n16 r_c17, .int .i64 r18, .bool r19, .bool r20, .bool r21, .int .i64 r22, .int .i64 r23], .int .i64 4]) w8) := fun hk m' =>
    ret12 Tm.zero none 0 (hb19.mod m' (by simp)) rfl fun w'' m'' => DecQ.bad (by rw [hdec, if_neg (by simp [hk])]) ((M19.none m').trans m'' (fun y hy => .inr (by simp at hy; omega)))
  refine iteI (fun he => bad (by unfold tmOk; rw [decide_eq_false he]; rfl) (Mod.refl _)) (fun he => ?_)
  have he : (cwDec (wordOf l)).2 = 0 := by simpa using he
  refine ⟨_, _, _, _, _, _, h19.cells, ?_⟩
  refine PutAll.at (i := 6) hq19 (by simp) fun w20 hq20 m20 => ?_
  have hq20 : Blk w20 w5.heap.size 26 ((tmOf l).cells x k) := hq20
  have M20 := M19.trans m20 (fun y hy => .inr (by simp at hy; omega))
  have hb20 := hb19.mod m20 (by simpa using nq)
  have ho20 : Own w20 5 1 x (tmOf l).d.length k ((tmOf l).d.map bv) := ho19.mod m20 (fun y hy hy' => by simp at hy'; exact (nx y hy).2 hy')
  refine ⟨_, _, _, _, _, _, _, _, _, _, _, _, _, _, hq20.cells, ?_⟩
  refine (tmEncode_ok (tmOf l) x k ho20.rd).mono ?_
  rintro _ w21 ⟨y, n, rfl, r21, c21, m21, s21⟩
  have M21 := M20.none m21
  refine ⟨_, _, _, _, rfl, ?_⟩
  have j1 : ∀ b : Bool, b = !tmOk l → F13_j1 (base w.heap.size) (base w5.heap.size) b w21 (DecQ w l) := by
    intro b hb
    unfold F13_j1
    subst hb
    cases hk : tmOk l with
    | true =>
      rw [if_neg (by simp)]
      refine ⟨_, _, _, _, _, _, _, _, _, _, _, _, _, _, (hq20.mod m21 (by simp)).cells, ret12 (tmOf l) x k (hb20.mod m21 (by simp)) rfl fun w'' m'' => ?_⟩
      unfold DecQ
      rw [hdec, if_pos hk]
      exact ⟨x, k, rfl, (ho20.mod m21 (by simp)).mod m'' (fun y hy hy' => by simp at hy'; exact (nx y hy).1 hy'), M21.trans m'' (fun y hy => .inr (by simp at hy; omega)), sx⟩
    | false =>
      rw [if_pos (by simp)]
      exact ret12 Tm.zero none 0 (hb20.mod m21 (by simp)) rfl fun w'' m'' => DecQ.bad (by rw [hdec, if_neg (by simp [hk])]) (M21.trans m'' (fun y hy => .inr (by simp at hy; omega)))
  unfold Tm.out Tm.err at *
  by_cases hok : (tmOf l).ok = true
  · rw [if_pos hok] at r21 ⊢
    rw [if_pos hok, if_neg (by simp)]
    refine (bytesEqual_ok n c r21 (hr.mod M21 (by simp))).mono ?_
    rintro _ _ ⟨rfl, rfl⟩
    refine ⟨_, rfl, j1 _ ?_⟩
    unfold tmOk
    rw [decide_eq_true he, hok]
    rfl
  · rw [if_neg hok] at r21 ⊢
    rw [if_neg hok, if_pos (by simp)]
    exact j1 _ (by unfold tmOk; simp [hok])
end Go.Proofs.Ytpioadkiomcdlaa
