/-
  Control words: the contracts of Decode, of the program and of the reference.
-/
import Derived.Test.YtpioadkiomcdlaaClcw
import Derived.Test.YtpioadkiomcdlaaBytesEq
namespace Go.Proofs.Ytpioadkiomcdlaa
open Go Go.Sh Go.Proofs
set_option linter.unusedVariables false
set_option linter.unusedSimpArgs false

def cwOf (v : Nat) : Cw := ⟨((v / 2 ^ 18 % 2 ^ 6 : Nat) : Int), decide (v / 2 ^ 13 % 2 ^ 1 = 1), decide (v / 2 ^ 12 % 2 ^ 1 = 1), decide (v / 2 ^ 11 % 2 ^ 1 = 1), ((v / 2 ^ 9 % 2 ^ 2 : Nat) : Int), ((v / 2 ^ 0 % 2 ^ 8 : Nat) : Int)⟩
def cwOk (l : List UInt8) : Bool := (cwOf (val l)).ok && (be (cwOf (val l)).n 4 == l)
def cwDec (l : List UInt8) : Cw × Int := if l.length < 4 then (Cw.zero, 3) else if 4 < l.length then (Cw.zero, 6) else if cwOk l then (cwOf (val l), 0) else (Cw.zero, 4)

theorem zeroRet {w0 w : World} {g t : Nat} {vs : List Value} {e : Int} (hb : Blk w g t vs) (hl : vs.length = 6) (m : Mod [] w0 w) (hg : w0.heap.size ≤ g) :
    PutAll w (base g) [.int .i64 0, .bool false, .bool false, .bool false, .int .i64 0, .int .i64 0] (fun w8 => ∃ (r10 : Int) (r11 r12 r13 : Bool) (r14 r15 : Int), Cells w8 (base g) 0 [.int .i64 r10, .bool r11, .bool r12, .bool r13, .int .i64 r14, .int .i64 r15] ∧
      (.tuple #[.agg #[.int .i64 r10, .bool r11, .bool r12, .bool r13, .int .i64 r14, .int .i64 r15], .int .i64 e] = Value.tuple #[Cw.zero.val, .int .i64 e] ∧ Mod [] w0 w8)) := by
  refine PutAll.use hb (by simp [hl]) fun w' hb' m' => ⟨_, _, _, _, _, _, hb'.cells, rfl, m.trans m' (fun x hx => .inr (by simp at hx; omega))⟩
theorem fullRet {w0 w : World} {g q t u : Nat} {vs : List Value} {c : Cw} (hb : Blk w g t vs) (hl : vs.length = 6) (m : Mod [] w0 w) (hg : w0.heap.size ≤ g) (hq : Blk w q u c.cells) :
    ∃ (x85 : Int) (x86 x87 x88 : Bool) (x89 x90 : Int), Cells w (base q) 0 [.int .i64 x85, .bool x86, .bool x87, .bool x88, .int .i64 x89, .int .i64 x90] ∧ PutAll w (base g) [.int .i64 x85, .bool x86, .bool x87, .bool x88, .int .i64 x89, .int .i64 x90] (fun w8 => ∃ (r10 : Int) (r11 r12 r13 : Bool) (r14 r15 : Int), Cells w8 (base g) 0 [.int .i64 r10, .bool r11, .bool r12, .bool r13, .int .i64 r14, .int .i64 r15] ∧
      (.tuple #[.agg #[.int .i64 r10, .bool r11, .bool r12, .bool r13, .int .i64 r14, .int .i64 r15], .int .i64 0] = Value.tuple #[c.val, .int .i64 0] ∧ Mod [] w0 w8)) := by
  refine ⟨_, _, _, _, _, _, hq.cells, PutAll.use hb (by simp [hl]) fun w' hb' m' => ⟨_, _, _, _, _, _, hb'.cells, rfl, m.trans m' (fun x hx => .inr (by simp at hx; omega))⟩⟩

theorem cwDecode_ok {w : World} {a : Option Addr} {l : List UInt8} (c : Nat) (hr : Rd w a (l.map bv)) : Does Try.prog 34 #[.slice a l.length c] w fun v w' => v = .tuple #[(cwDec l).1.val, .int .i64 (cwDec l).2] ∧ Mod [] w w' := by
  apply w34
  unfold F34
  refine New.use fun w1 hB m1 z1 => ?_
  unfold cwDec
  by_cases h3 : l.length < 4
  · rw [if_pos (by omega), if_pos h3]
    exact zeroRet hB rfl m1 (Nat.le_refl _)
  rw [if_neg (by omega), if_neg h3]
  by_cases h4 : 4 < l.length
  · rw [if_pos (by omega), if_pos h4]
    exact zeroRet hB rfl m1 (Nat.le_refl _)
  rw [if_neg (by omega), if_neg h4]
  have hl : l.length = 4 := by omega
  have hv := val_lt l
  have nv : ∀ p k, p + k ≤ 32 → num l p k = val l / 2 ^ (32 - p - k) % 2 ^ k := fun p k h => by rw [num_val l p k (by omega), hl]
  refine (newReader_ok a l c w1 (by omega) (hr.mod m1 (by simp))).mono ?_
  rintro _ w2 ⟨g, S, rfl, r2, s2, m2⟩
  have M2 := m1.none m2
  have hb2 := hB.mod m2 (by simp)
  have gS : g ∈ S := by obtain ⟨_, _, e, _⟩ := r2; rw [e]; simp
  have hS : w.heap.size ∉ S := fun h => by have := s2 _ h; omega
  refine ⟨_, rfl, ?_⟩
  refine (r2.skipN (by omega) 8 (by omega)).mono ?_
  rintro _ w3 ⟨rfl, m3, r3⟩
  have since : ∀ x ∈ S, w.heap.size ≤ x := fun x hx => by have := s2 x hx; omega
  have M3 := M2.since m3 (by intro x hx; simp at hx; subst hx; exact since _ gS)
  have hb3 := hb2.mod m3 (by simp; intro e; exact hS (e ▸ gS))
  refine ⟨rfl, ?_⟩
  refine (r3.getN (by omega) 6 (by omega) (by omega)).mono ?_
  rintro _ w4 ⟨rfl, m4, r4⟩
  have M4 := M3.since m4 (by intro x hx; simp at hx; subst hx; exact since _ gS)
  have hb4 := hb3.mod m4 (by simp; intro e; exact hS (e ▸ gS))
  rw [nv _ _ (by omega)]
  refine ⟨_, rfl, ?_⟩
  refine New.use fun w5 hq5 m5 z5 => ?_
  refine PutAll.use hq5 rfl fun w6 hq6 m6 => ?_
  have M5 := M4.none m5
  have hlt := r4.lt
  have z4 := M4.size
  have qS : w4.heap.size ∉ S := fun h => by have := hlt _ h; omega
  have hb6 := (hb4.mod m5 (by simp)).mod m6 (by simp; have := hb4.lt; omega)
  have I6 : RB w w6 g S l (0 + 8 + 6) w4.heap.size 24 _ := ⟨(r4.mod m5 (by simp)).mod m6 (fun x hx hx' => by simp at hx'; subst hx'; exact qS hx), hq6, qS, fun x hx => by rcases List.mem_cons.1 hx with rfl | hx; omega; exact since x hx, M5.trans m6 (fun x hx => .inr (by simp at hx; omega))⟩
  have Bk : ∀ {w' : World} {p : Nat} {vs : List Value}, RB w w' g S l p w4.heap.size 24 vs → Mod (w4.heap.size :: S) w6 w' → Blk w' w.heap.size 24 [.int .i64 0, .bool false, .bool false, .bool false, .int .i64 0, .int .i64 0] := fun _ hm => hb6.mod hm (by simp; exact ⟨by have := hb4.lt; omega, hS⟩)
  have gm : ∀ {w1 w2 : World}, Mod [g] w1 w2 → Mod (w4.heap.size :: S) w1 w2 := fun h => h.weaken (fun x hx => .inl (by simp at hx; subst hx; simp [gS]))
  have qm : ∀ {w1 w2 : World}, Mod [w4.heap.size] w1 w2 → Mod (w4.heap.size :: S) w1 w2 := fun h => h.weaken (fun x hx => .inl (by simp at hx; subst hx; simp))
  refine (I6.r.skipN (by omega) 4 (by omega)).mono ?_
  rintro _ w7 ⟨rfl, m7, r7⟩
  have I7 := I6.step m7 r7
  have N7 := gm m7
  refine ⟨rfl, ?_⟩
  refine (I7.r.getN (by omega) 1 (by omega) (by omega)).mono ?_
  rintro _ w8 ⟨rfl, m8, r8⟩
  have I8 := I7.step m8 r8
  have N8 := N7.same (gm m8)
  rw [nv _ _ (by omega)]
  refine ⟨_, rfl, ?_⟩
  refine Put.use I8.b (by simp) fun w9 hq9 m9 => ?_
  have I9 : RB w w9 g S l _ w4.heap.size 24 _ := { I8 with r := I8.r.mod m9 (fun x hx hx' => by simp at hx'; subst hx'; exact qS hx), b := hq9, m := I8.m.trans m9 (fun x hx => .inr (by simp at hx; omega)) }
  have N9 := N8.same (qm m9)
  refine (I9.r.getN (by omega) 1 (by omega) (by omega)).mono ?_
  rintro _ w10 ⟨rfl, m10, r10⟩
  have I10 := I9.step m10 r10
  have N10 := N9.same (gm m10)
  rw [nv _ _ (by omega)]
  refine ⟨_, rfl, ?_⟩
  refine Put.use I10.b (by simp) fun w11 hq11 m11 => ?_
  have I11 : RB w w11 g S l _ w4.heap.size 24 _ := { I10 with r := I10.r.mod m11 (fun x hx hx' => by simp at hx'; subst hx'; exact qS hx), b := hq11, m := I10.m.trans m11 (fun x hx => .inr (by simp at hx; omega)) }
  have N11 := N10.same (qm m11)
  refine (I11.r.getN (by omega) 1 (by omega) (by omega)).mono ?_
  rintro _ w12 ⟨rfl, m12, r12⟩
  have I12 := I11.step m12 r12
  have N12 := N11.same (gm m12)
  rw [nv _ _ (by omega)]
  refine ⟨_, rfl, ?_⟩
  refine Put.use I12.b (by simp) fun w13 hq13 m13 => ?_
  have I13 : RB w w13 g S l _ w4.heap.size 24 _ := { I12 with r := I12.r.mod m13 (fun x hx hx' => by simp at hx'; subst hx'; exact qS hx), b := hq13, m := I12.m.trans m13 (fun x hx => .inr (by simp at hx; omega)) }
  have N13 := N12.same (qm m13)
  refine (I13.r.getN (by omega) 2 (by omega) (by omega)).mono ?_
  rintro _ w14 ⟨rfl, m14, r14⟩
  have I14 := I13.step m14 r14
  have N14 := N13.same (gm m14)
  rw [nv _ _ (by omega)]
  refine ⟨_, rfl, ?_⟩
  refine Put.use I14.b (by simp) fun w15 hq15 m15 => ?_
  have I15 : RB w w15 g S l _ w4.heap.size 24 _ := { I14 with r := I14.r.mod m15 (fun x hx hx' => by simp at hx'; subst hx'; exact qS hx), b := hq15, m := I14.m.trans m15 (fun x hx => .inr (by simp at hx; omega)) }
  have N15 := N14.same (qm m15)
  refine (I15.r.skipN (by omega) 1 (by omega)).mono ?_
  rintro _ w16 ⟨rfl, m16, r16⟩
  have I16 := I15.step m16 r16
  have N16 := N15.same (gm m16)
  refine ⟨rfl, ?_⟩
  refine (I16.r.getN (by omega) 8 (by omega) (by omega)).mono ?_
  rintro _ w17 ⟨rfl, m17, r17⟩
  have I17 := I16.step m17 r17
  have N17 := N16.same (gm m17)
  rw [nv _ _ (by omega)]
  refine ⟨_, rfl, ?_⟩
  refine Put.use I17.b (by simp) fun w18 hq18 m18 => ?_
  have M18 : Mod [] w w18 := I17.m.trans m18 (fun x hx => .inr (by simp at hx; omega))
  have N18 := N17.same (qm m18)
  have hb18 : Blk w18 w.heap.size 24 _ := hb6.mod N18 (by simp; exact ⟨by have := hb4.lt; omega, hS⟩)
  clear I6 I7 I8 I9 I10 I11 I12 I13 I14 I15 I16 I17 N7 N8 N9 N10 N11 N12 N13 N14 N15 N16 N17 N18 Bk gm qm
  have e : ∀ x y : Nat, y ≤ 16 → IntKind.i64.wrap ((x % 2 ^ y : Nat) : Int) = ((x % 2 ^ y : Nat) : Int) := fun x y hy => by
    have : x % 2 ^ y < 2 ^ y := Nat.mod_lt _ (Nat.two_pow_pos y)
    have : 2 ^ y ≤ 2 ^ 16 := Nat.pow_le_pow_right (by decide) hy
    rw [wi64 (by omega)]
  have d1 : ∀ x : Nat, decide (((x % 2 ^ 1 : Nat) : Int) = 1) = decide (x % 2 ^ 1 = 1) := fun x => by congr 1; rw [eq_iff_iff]; omega
  have hq : Blk w18 w4.heap.size 24 (cwOf (val l)).cells := by
    simp only [List.set_cons_succ, List.set_cons_zero, e _ _ (show 6 ≤ 16 by decide), e _ _ (show 2 ≤ 16 by decide), e _ _ (show 8 ≤ 16 by decide), d1] at hq18
    exact hq18
  clear hq18
  refine ⟨_, _, _, _, _, _, hq.cells, ?_⟩
  refine (cwEncode_ok (cwOf (val l)) w18).mono ?_
  rintro _ w19 ⟨x, k, rfl, ho, m19, s19⟩
  have M19 := M18.none m19
  refine ⟨_, _, _, _, rfl, ?_⟩
  unfold Cw.out Cw.err at *
  by_cases hok : (cwOf (val l)).ok = true
  · rw [if_pos hok] at ho ⊢
    rw [if_pos hok, if_neg (by simp)]
    refine (bytesEqual_ok k c ho.rd (hr.mod M19 (by simp))).mono ?_
    rintro _ _ ⟨rfl, rfl⟩
    refine ⟨_, rfl, ?_⟩
    unfold F34_j1 cwOk
    rw [hok]
    cases hc : (be (cwOf (val l)).n 4 == l) with
    | true => rw [if_neg (by simp), if_pos (by simp)]; exact fullRet (hb18.mod m19 (by simp)) rfl M19 (Nat.le_refl _) (hq.mod m19 (by simp))
    | false => rw [if_pos (by simp), if_neg (by simp)]; exact zeroRet (hb18.mod m19 (by simp)) rfl M19 (Nat.le_refl _)
  · rw [if_neg hok] at ho ⊢
    rw [if_neg hok, if_pos (by simp)]
    unfold F34_j1 cwOk
    rw [if_pos rfl, if_neg (by simp [hok])]
    exact zeroRet (hb18.mod m19 (by simp)) rfl M19 (Nat.le_refl _)

theorem val4 {l : List UInt8} (hl : l.length = 4) : val l = ((l[0].toNat * 256 + l[1].toNat) * 256 + l[2].toNat) * 256 + l[3].toNat := by
  match l, hl with
  | [b0, b1, b2, b3], _ => simp [val]
theorem cwRefDecode_ok {w : World} {a : Option Addr} {l : List UInt8} (c : Nat) (hr : Rd w a (l.map bv)) : Does Try.prog 38 #[.slice a l.length c] w fun v w' => v = .tuple #[(cwDec l).1.val, .int .i64 (cwDec l).2] ∧ Mod [] w w' := by
  apply w38
  unfold F38
  refine New.use fun w1 hB m1 z1 => ?_
  unfold cwDec
  by_cases h3 : l.length < 4
  · rw [if_pos (by omega), if_pos h3]
    exact zeroRet hB rfl m1 (Nat.le_refl _)
  rw [if_neg (by omega), if_neg h3]
  by_cases h4 : 4 < l.length
  · rw [if_pos (by omega), if_pos h4]
    exact zeroRet hB rfl m1 (Nat.le_refl _)
  rw [if_neg (by omega), if_neg h4]
  have hl : l.length = 4 := by omega
  obtain ⟨p, rfl, c2⟩ := rd_get (hr.mod m1 (by simp)) (i := 2) (by omega)
  obtain ⟨p', hp, c1⟩ := rd_get (hr.mod m1 (by simp)) (i := 1) (by omega)
  cases hp
  obtain ⟨p', hp, c3⟩ := rd_get (hr.mod m1 (by simp)) (i := 3) (by omega)
  cases hp
  refine ⟨p, rfl, by omega, by omega, _, c2, by omega, by omega, _, c1, by omega, by omega, _, c3, ?_⟩
  refine New.use fun w2 hq2 m2 z2 => ?_
  have M2 := (m1.none (Mod.drew (S := []) w1)).none m2
  have hb2 := hB.drew.mod m2 (by simp)
  refine ⟨m2.cell (S := []) c1 (by simp), m2.cell (S := []) c3 (by simp), ?_⟩
  refine PutAll.use hq2 rfl fun w3 hq3 m3 => ?_
  rw [size_drew] at *
  have hne : w.heap.size ≠ w1.heap.size := by omega
  have hb3 := hb2.mod m3 (by simp; omega)
  have M3 := M2.trans m3 (fun x hx => .inr (by simp at hx; omega))
  have hq : Blk w3 w1.heap.size 24 (cwOf (val l)).cells := by
    have e : (cwOf (val l)).cells = [.int .i64 (IntKind.i64.wrap (Int.tdiv (IntKind.i64.wrap (l[1].toNat : Int)) 4)), .bool (decide ((Int.tmod (IntKind.i64.wrap (Int.tdiv (IntKind.i64.wrap (l[2].toNat : Int)) 32)) 2) = 1)), .bool (decide ((Int.tmod (IntKind.i64.wrap (Int.tdiv (IntKind.i64.wrap (l[2].toNat : Int)) 16)) 2) = 1)), .bool (decide ((Int.tmod (IntKind.i64.wrap (Int.tdiv (IntKind.i64.wrap (l[2].toNat : Int)) 8)) 2) = 1)), .int .i64 (Int.tmod (IntKind.i64.wrap (Int.tdiv (IntKind.i64.wrap (l[2].toNat : Int)) 2)) 4), .int .i64 (IntKind.i64.wrap (l[3].toNat : Int))] := by
      have n0 := l[0].toNat_lt
      have n1 := l[1].toNat_lt
      have n2 := l[2].toNat_lt
      have n3 := l[3].toNat_lt
      rw [val4 hl]
      generalize l[0].toNat = b0 at *
      generalize l[1].toNat = b1 at *
      generalize l[2].toNat = b2 at *
      generalize l[3].toNat = b3 at *
      have dv : ∀ (n k : Nat), n < 256 → 0 < k → IntKind.i64.wrap (Int.tdiv (n : Int) (k : Int)) = ((n / k : Nat) : Int) := fun n k h h' => by
        have h2 : n / k ≤ n := Nat.div_le_self n k
        rw [Int.tdiv_eq_ediv_of_nonneg (by omega), show ((n : Int) / (k : Int)) = ((n / k : Nat) : Int) from rfl]
        generalize n / k = q at h2 ⊢
        exact wi64 (by omega)
      have md : ∀ (n k : Nat), Int.tmod (n : Int) (k : Int) = ((n % k : Nat) : Int) := fun n k => by rw [Int.tmod_eq_emod_of_nonneg (by omega)]; rfl
      rw [wi64 (n := (b1 : Int)) (by omega), wi64 (n := (b2 : Int)) (by omega), wi64 (n := (b3 : Int)) (by omega)]
      have d1 := dv b1 4 (by omega) (by omega)
      have d2 := dv b2 32 (by omega) (by omega)
      have d3 := dv b2 16 (by omega) (by omega)
      have d4 := dv b2 8 (by omega) (by omega)
      have d5 := dv b2 2 (by omega) (by omega)
      have k1 := md (b2 / 32) 2
      have k2 := md (b2 / 16) 2
      have k3 := md (b2 / 8) 2
      have k4 := md (b2 / 2) 4
      simp only [Int.cast_ofNat_Int] at d1 d2 d3 d4 d5 k1 k2 k3 k4
      rw [d1, d2, d3, d4, d5, k1, k2, k3, k4]
      unfold cwOf Cw.cells
      have f1 : ∀ x y : Nat, x % 2 = y % 2 ^ 1 → decide (y % 2 ^ 1 = 1) = decide ((x % 2 : Nat) = (1 : Int)) := fun x y h => by congr 1; rw [eq_iff_iff]; omega
      refine congr (congrArg _ ?_) (congr (congrArg _ ?_) (congr (congrArg _ ?_) (congr (congrArg _ ?_) (congr (congrArg _ ?_) (congr (congrArg _ ?_) rfl)))))
      · congr 1; show ((_ : Nat) : Int) = ((_ : Nat) : Int); congr 1; omega
      · congr 1; exact f1 _ _ (by omega)
      · congr 1; exact f1 _ _ (by omega)
      · congr 1; exact f1 _ _ (by omega)
      · congr 1; show ((_ : Nat) : Int) = ((_ : Nat) : Int); congr 1; omega
      · congr 1; show ((_ : Nat) : Int) = ((_ : Nat) : Int); congr 1; omega
    rw [e]
    exact hq3
  clear hq3
  refine ⟨_, _, _, _, _, _, hq.cells, ?_⟩
  refine (cwRefEncode_ok (cwOf (val l)) w3).mono ?_
  rintro _ w19 ⟨x, k, rfl, ho, m19, s19⟩
  have M19 := M3.none m19
  refine ⟨_, _, _, _, rfl, ?_⟩
  unfold Cw.out Cw.err at *
  by_cases hok : (cwOf (val l)).ok = true
  · rw [if_pos hok] at ho ⊢
    rw [if_pos hok, if_neg (by simp)]
    refine ⟨_, toStr_ok k ho.rd, _, toStr_ok c (hr.mod M19 (by simp)), ?_⟩
    rw [strEq]
    unfold F38_j1 cwOk
    rw [hok]
    cases hc : (be (cwOf (val l)).n 4 == l) with
    | true => rw [if_neg (by simp), if_pos (by simp)]; exact fullRet (hb3.mod m19 (by simp)) rfl M19 (Nat.le_refl _) (hq.mod m19 (by simp))
    | false => rw [if_pos (by simp), if_neg (by simp)]; exact zeroRet (hb3.mod m19 (by simp)) rfl M19 (Nat.le_refl _)
  · rw [if_neg hok] at ho ⊢
    rw [if_neg hok, if_pos (by simp)]
    unfold F38_j1 cwOk
    rw [if_pos rfl, if_neg (by simp [hok])]
    exact zeroRet (hb3.mod m19 (by simp)) rfl M19 (Nat.le_refl _)
theorem cw_back (c : Cw) (h : c.ok = true) : cwDec (be c.n 4) = (c, 0) := by
  have e : cwOf (val (be c.n 4)) = c := by
    rw [val_be]
    simp only [Cw.ok, decide_eq_true_eq] at h
    obtain ⟨ch, lo, wa, re, bp, nx⟩ := c
    simp only at h
    have h1 : lo.toNat ≤ 1 := by cases lo <;> simp
    have h2 : wa.toNat ≤ 1 := by cases wa <;> simp
    have h3 : re.toNat ≤ 1 := by cases re <;> simp
    have b : ∀ x : Bool, x = decide (x.toNat = 1) := by decide
    unfold cwOf Cw.n
    simp only [Cw.mk.injEq]
    refine ⟨by omega, ?_, ?_, ?_, by omega, by omega⟩
    · rw [b lo]; congr 1; rw [eq_iff_iff, ← b lo]; omega
    · rw [b wa]; congr 1; rw [eq_iff_iff, ← b wa]; omega
    · rw [b re]; congr 1; rw [eq_iff_iff, ← b re]; omega
  unfold cwDec cwOk
  rw [e, be_len, if_neg (by omega), if_neg (by omega), if_pos (by simp [h])]
end Go.Proofs.Ytpioadkiomcdlaa
