/-
  Telemetry frames: the reference's Decode; Same.
-/
import Derived.Test.YtpioadkiomcdlaaTmDec
namespace Go.Proofs.Ytpioadkiomcdlaa
open Go Go.Sh Go.Proofs
set_option linter.unusedVariables false
set_option linter.unusedSimpArgs false

theorem chk_ref {l : List UInt8} (h : 2 ≤ l.length) : chk16 l = decide ((sum16 (l.take (l.length - 2))).toNat = (l.getD (l.length - 2) 0).toNat * 256 + (l.getD (l.length - 1) 0).toNat) := by
  rw [chk16_iff h, decide_eq_decide, ← word_iff, ← word_toNat, BitVec.toNat_inj]

/-- The reference's reader, and a block beside it. -/
structure RX (w0 w : World) (g : Nat) (a : Option Addr) (l : List UInt8) (c p q t : Nat) (vs : List Value) : Prop where
  r : Rr w g a l c p false
  b : Blk w q t vs
  ne : q ≠ g
  hg : w0.heap.size ≤ g
  hq : w0.heap.size ≤ q
  m : Mod [] w0 w
section
variable {w0 w : World} {g c p q t : Nat} {a : Option Addr} {l : List UInt8} {vs : List Value}
theorem RX.step (h : RX w0 w g a l c p q t vs) {w' : World} {p' : Nat} (m : Mod [g] w w') (r : Rr w' g a l c p' false) : RX w0 w' g a l c p' q t vs :=
  { h with r := r, b := h.b.mod m (by simp; exact h.ne), m := h.m.trans m (fun x hx => .inr (by simp at hx; subst hx; exact h.hg)) }
theorem RX.get (h : RX w0 w g a l c p q t vs) (hl : l.length ≤ 1000000) (wd : Nat) (h64 : wd ≤ 64) (hp : p + wd ≤ 8 * l.length) :
    Does Try.prog 37 #[.pointer (some (base g)), .int .i64 (wd : Int)] w fun v w' => v = .int .u64 (num l p wd : Int) ∧ Mod [g] w w' ∧ RX w0 w' g a l c (p + wd) q t vs := by
  refine (refGet_ok (h := h.r) (hl := hl) (wd := (wd : Int))).mono ?_
  rintro _ w' ⟨rfl, m, r⟩
  have hg : good l p false (wd : Int) = true := by simp [good]; omega
  unfold gval gat gbad at *
  rw [if_pos hg] at r ⊢
  rw [hg] at r
  exact ⟨rfl, m, h.step m r⟩
theorem RX.skip (h : RX w0 w g a l c p q t vs) (hl : l.length ≤ 1000000) (wd : Nat) (hp : p + wd ≤ 8 * l.length) :
    Does Try.prog 36 #[.pointer (some (base g)), .int .i64 (wd : Int)] w fun v w' => v = .tuple #[] ∧ Mod [g] w w' ∧ RX w0 w' g a l c (p + wd) q t vs := by
  refine (refSkip_ok (h := h.r) (hl := hl) (wd := (wd : Int))).mono ?_
  rintro _ w' ⟨rfl, m, r⟩
  have hg : sgood l p false (wd : Int) = true := by simp [sgood]; omega
  unfold sat at *
  rw [hg] at r
  exact ⟨rfl, m, h.step m r⟩
theorem RX.put (h : RX w0 w g a l c p q t vs) (ha : ∀ x ∈ fpv a (l.map bv), x < w0.heap.size) {i : Nat} {v : Value} (hi : i < vs.length) {k : World → Prop} (hk : ∀ w', Mod [q] w w' → RX w0 w' g a l c p q t (vs.set i v) → k w') : Put w ((base q).add i) v k :=
  Put.use h.b hi fun w' b m => hk w' m { h with r := h.r.mod m (by simp; exact fun e => h.ne e.symm) (fun x hx hx' => by simp at hx'; have := ha x hx; have := h.hq; omega), b := b, m := h.m.trans m (fun x hx => .inr (by simp at hx; subst hx; exact h.hq)) }
theorem RX.put0 (h : RX w0 w g a l c p q t vs) (ha : ∀ x ∈ fpv a (l.map bv), x < w0.heap.size) {v : Value} (hi : 0 < vs.length) {k : World → Prop} (hk : ∀ w', Mod [q] w w' → RX w0 w' g a l c p q t (vs.set 0 v) → k w') : Put w (base q) v k := by
  have := h.put ha (i := 0) (v := v) hi hk
  rwa [add_zero] at this
end

theorem tmRefDecode_ok {w : World} {a : Option Addr} {l : List UInt8} {c : Nat} (hc : l.length ≤ c) (hr : Rd w a (l.map bv)) : Does Try.prog 14 #[.slice a l.length c] w (DecQ w l) := by
  apply w14
  unfold F14
  refine New.use fun w1 hB m1 z1 => ?_
  have m1' : ∀ {w' : World}, Mod [w.heap.size] w1 w' → Mod [] w w' := fun h => m1.trans h (fun x hx => .inr (by simp at hx; omega))
  by_cases h8 : l.length < 13
  · rw [if_pos (by omega)]
    exact ret12 Tm.zero none 0 hB rfl fun w' m' => DecQ.bad (by unfold tmDec; rw [if_pos h8]) (m1' m')
  rw [if_neg (by omega)]
  by_cases h24 : 1024 < l.length
  · rw [if_pos (by omega)]
    exact ret12 Tm.zero none 0 hB rfl fun w' m' => DecQ.bad (by unfold tmDec; rw [if_neg h8, if_pos h24]) (m1' m')
  rw [if_neg (by omega)]
  have hlt := hr.lt
  have e2 : IntKind.i64.wrap ((l.length : Int) - 2) = ((l.length - 2 : Nat) : Int) := by rw [wi64 (by omega)]; omega
  have e1 : IntKind.i64.wrap (((l.length - 2 : Nat) : Int) + 1) = ((l.length - 1 : Nat) : Int) := by rw [wi64 (by omega)]; omega
  have e6 : IntKind.i64.wrap (((l.length - 2 : Nat) : Int) - 4) = ((l.length - 6 : Nat) : Int) := by rw [wi64 (by omega)]; omega
  rw [e2, e1, e6]
  refine ⟨by omega, by omega, ?_⟩
  have hlt2 : (l.take (l.length - 2)).length = l.length - 2 := by rw [List.length_take]; omega
  rw [Int.toNat_natCast, ← hlt2]
  refine (refSum16_ok a (l.take (l.length - 2)) c w1 (by omega) (by rw [List.map_take]; exact (hr.mod m1 (by simp)).take _)).mono ?_
  rintro _ _ ⟨rfl, rfl⟩
  refine ⟨_, rfl, ?_⟩
  rw [hlt2]
  have hr1 := (hr.mod m1 (by simp)).drew
  obtain ⟨p, rfl, c0⟩ := rd_get hr1 (i := l.length - 2) (by omega)
  obtain ⟨p', hp, c1⟩ := rd_get hr1 (i := l.length - 1) (by omega)
  cases hp
  refine ⟨p, rfl, by omega, by omega, _, c0, by omega, by omega, _, c1, ?_⟩
  have hsum := chk_ref (show 2 ≤ l.length by omega)
  have g0 : ∀ i, i < l.length → l.getD i 0 = l[i]?.getD 0 := fun i _ => List.getD_eq_getElem?_getD
  have gd : ∀ {i : Nat} (h : i < l.length), l.getD i 0 = l[i] := fun {i} h => by rw [List.getD_eq_getElem?_getD, List.getElem?_eq_getElem h]; rfl
  rw [gd (show l.length - 2 < l.length by omega), gd (show l.length - 1 < l.length by omega)] at hsum
  have n0 := l[l.length - 2].toNat_lt
  have n1 := l[l.length - 1].toNat_lt
  have ns : (sum16 (l.take (l.length - 2))).toNat < 65536 := (sum16 (l.take (l.length - 2))).isLt
  have hcond : (IntKind.i64.wrap ((sum16 (l.take (l.length - 2))).toNat : Int) ≠ IntKind.i64.wrap ((IntKind.i64.wrap (256 * (IntKind.i64.wrap (l[l.length - 2].toNat : Int)))) + (IntKind.i64.wrap (l[l.length - 1].toNat : Int)))) ↔ chk16 l = false := by
    rw [hsum, decide_eq_false_iff_not]
    generalize (sum16 (l.take (l.length - 2))).toNat = s at *
    generalize l[l.length - 2].toNat = x at *
    generalize l[l.length - 1].toNat = y at *
    rw [wi64 (n := (s : Int)) (by omega), wi64 (n := (x : Int)) (by omega), wi64 (n := (y : Int)) (by omega), wi64 (n := 256 * (x : Int)) (by omega), wi64 (by omega)]
    omega
  have md := Mod.drew (S := []) w1
  have hB := hB.drew
  have m1 := m1.none md
  have z1 : w1.drew.heap.size = w.heap.size + 1 := z1
  generalize w1.drew = w1 at *
  clear md m1'
  by_cases hck : chk16 l = false
  · rw [if_pos (hcond.2 hck)]
    exact ret12 Tm.zero none 0 hB rfl fun w' m' => DecQ.bad (by unfold tmDec; rw [if_neg h8, if_neg h24, if_pos hck]) (m1.trans m' (fun x hx => .inr (by simp at hx; omega)))
  rw [if_neg (fun h => hck (hcond.1 h))]
  have hck' : chk16 l = true := by simpa using hck
  clear c0 c1 hcond hsum g0 gd n0 n1 ns e1
  have hl6 : (l.take 6).length = 6 := by rw [List.length_take]; omega
  have nv : ∀ p k, p + k ≤ 48 → num l p k = val (l.take 6) / 2 ^ (48 - p - k) % 2 ^ k := fun p k h => by rw [num_take l 6 p k (by omega), num_val _ p k (by omega), hl6]
  have hdec : tmDec l = if tmOk l then (tmOf l, 0) else (Tm.zero, 4) := by unfold tmDec; rw [if_neg h8, if_neg h24, if_neg hck]
  have hfl := tmOf_len (show 12 ≤ l.length by omega)
  have hwl := wordOf_len (show 6 ≤ l.length by omega)
  refine New.put rfl fun w2 h2 m2 z2 => ?_
  refine New.use fun w3 h3 m3 z3 => ?_
  have M3 := (m1.none m2).none m3
  have hb3 := (hB.mod m2 (by simp)).mod m3 (by simp)
  have I3 : RX w w3 w1.heap.size (some p) l c 0 w2.heap.size 26 _ := ⟨⟨by omega, fun h => by have := hlt _ h; omega, h2.mod m3 (by simp), hr.mod M3 (by simp)⟩, h3, by omega, by omega, by omega, M3⟩
  have nq : w.heap.size ∉ [w1.heap.size] := by simp; omega
  have nq2 : w.heap.size ∉ [w2.heap.size] := by simp; omega
  refine (I3.skip (by omega) 2 (by omega)).mono ?_
  rintro _ w4 ⟨rfl, m4, I4⟩
  have hb4 := hb3.mod m4 nq
  refine ⟨rfl, ?_⟩
  refine (I4.get (by omega) 10 (by omega) (by omega)).mono ?_
  rintro _ w5 ⟨rfl, m5, I5⟩
  have hb5 := hb4.mod m5 nq
  refine ⟨_, rfl, ?_⟩
  refine I5.put0 hlt (by simp) fun w6 m6 I6 => ?_
  have hb6 := hb5.mod m6 nq2
  refine (I6.get (by omega) 3 (by omega) (by omega)).mono ?_
  rintro _ w7 ⟨rfl, m7, I7⟩
  have hb7 := hb6.mod m7 nq
  refine ⟨_, rfl, ?_⟩
  refine I7.put hlt (by simp) fun w8 m8 I8 => ?_
  have hb8 := hb7.mod m8 nq2
  refine (I8.skip (by omega) 1 (by omega)).mono ?_
  rintro _ w9 ⟨rfl, m9, I9⟩
  have hb9 := hb8.mod m9 nq
  refine ⟨rfl, ?_⟩
  refine (I9.get (by omega) 8 (by omega) (by omega)).mono ?_
  rintro _ w10 ⟨rfl, m10, I10⟩
  have hb10 := hb9.mod m10 nq
  refine ⟨_, rfl, ?_⟩
  refine I10.put hlt (by simp) fun w11 m11 I11 => ?_
  have hb11 := hb10.mod m11 nq2
  refine (I11.get (by omega) 8 (by omega) (by omega)).mono ?_
  rintro _ w12 ⟨rfl, m12, I12⟩
  have hb12 := hb11.mod m12 nq
  refine ⟨_, rfl, ?_⟩
  refine I12.put hlt (by simp) fun w13 m13 I13 => ?_
  have hb13 := hb12.mod m13 nq2
  refine (I13.skip (by omega) 5 (by omega)).mono ?_
  rintro _ w14 ⟨rfl, m14, I14⟩
  have hb14 := hb13.mod m14 nq
  refine ⟨rfl, ?_⟩
  refine (I14.get (by omega) 11 (by omega) (by omega)).mono ?_
  rintro _ w15 ⟨rfl, m15, I15⟩
  have hb15 := hb14.mod m15 nq
  refine ⟨_, rfl, ?_⟩
  refine I15.put hlt (by simp) fun w16 m16 I16 => ?_
  have hb16 := (hb15.mod m16 nq2).drew
  have hq16 := I16.b.drew
  have M16 : Mod [] w w16.drew := I16.m.none (Mod.drew w16)
  clear I3 I4 I5 I6 I7 I8 I9 I10 I11 I12 I13 I14 I15 I16 m4 m5 m6 m7 m8 m9 m10 m11 m12 m13 m14 m15 m16 hb3 hb4 hb5 hb6 hb7 hb8 hb9 hb10 hb11 hb12 hb13 hb14 hb15
  have e16 : w16.drew.heap.size = w16.heap.size := rfl
  generalize w16.drew = w16 at *
  simp only [nv (0 + 2) 10 (by omega), nv (0 + 2 + 10) 3 (by omega), nv (0 + 2 + 10 + 3 + 1) 8 (by omega), nv (0 + 2 + 10 + 3 + 1 + 8) 8 (by omega), nv (0 + 2 + 10 + 3 + 1 + 8 + 8 + 5) 11 (by omega), List.set_cons_succ, List.set_cons_zero, wrapMod _ _ (show 10 ≤ 16 by decide), wrapMod _ _ (show 3 ≤ 16 by decide), wrapMod _ _ (show 8 ≤ 16 by decide), wrapMod _ _ (show 11 ≤ 16 by decide)] at hq16
  refine ⟨_, _, _, hq16.cell (i := 5) rfl, by omega, by omega, by omega, ?_⟩
  have hcut := ((hr.mod M16 (by simp)).cut (c := c) (l := 6) (z := 1) (by simp; omega)).take (l.length - 12)
  rw [Nat.mul_one, ← List.map_drop, ← List.map_take] at hcut
  have hlen : ((l.length - 6 : Nat) : Int).toNat - (6 : Int).toNat = (tmOf l).d.length := by
    rw [hfl]
    show (l.length - 6) - 6 = _
    omega
  rw [hlen]
  obtain ⟨x, k, w17, run17, o17, m17, f17⟩ := app_bytes (l := []) (m := (tmOf l).d) (x := none) (k := 0) (c := c - (6 : Int).toNat) Own.nil hcut (by simp; omega)
  rw [List.nil_append] at run17 o17
  refine ⟨_, _, _, w17, run17, ?_⟩
  have m17 : Mod [] w16 w17 := m17
  have fx : ∀ y ∈ fp x, w16.heap.size ≤ y := fun y hy => by rcases f17 with h | h <;> rw [h] at hy <;> simp [fp] at hy <;> omega
  have zb := hb16.lt
  have zq := hq16.lt
  refine Put.use (hq16.mod m17 (by simp)) (by simp) fun w18 hq18 m18 => ?_
  have hq18 : Blk w18 w2.heap.size 26 (({ tmOf l with cw := Cw.zero } : Tm).cells x k) := hq18
  have hb18 := (hb16.mod m17 (by simp)).mod m18 nq2
  have M18 : Mod [] w w18 := (M16.none m17).trans m18 (fun y hy => .inr (by simp at hy; omega))
  have o18 := o17.mod m18 (fun y hy hy' => by simp at hy'; have := fx y hy; omega)
  have sx : Since w (fp x) := fun y hy => by have := fx y hy; have := M16.size; omega
  have nx : ∀ y ∈ fp x, y ≠ w.heap.size ∧ y ≠ w2.heap.size := fun y hy => by have := fx y hy; omega
  refine ⟨by omega, by omega, by omega, ?_⟩
  have hcw := ((hr.mod M18 (by simp)).cut (c := c) (l := l.length - 6) (z := 1) (by simp; omega)).take 4
  rw [Nat.mul_one, ← List.map_drop, ← List.map_take] at hcw
  have hwlen : l.length - 2 - (l.length - 6) = (wordOf l).length := by rw [hwl]; omega
  simp only [Int.toNat_natCast]
  rw [hwlen]
  refine (cwRefDecode_ok (l := wordOf l) _ hcw).mono ?_
  rintro _ w19 ⟨rfl, m19⟩
  refine ⟨_, _, _, _, _, _, _, rfl, ?_⟩
  refine New.put rfl fun w20 h20 m20 z20 => ?_
  have m1920 := m19.none m20
  have M20 := M18.none m1920
  refine ⟨_, _, _, _, _, _, h20.cells, ?_⟩
  refine PutAll.at (i := 6) (hq18.mod m1920 (by simp)) (by simp) fun w21 hq21 m21 => ?_
  have hq21 : Blk w21 w2.heap.size 26 ((tmOf l).cells x k) := hq21
  have M21 := M20.trans m21 (fun y hy => .inr (by simp at hy; omega))
  have hb21 := (hb18.mod m1920 (by simp)).mod m21 nq2
  have o21 : Own w21 5 1 x (tmOf l).d.length k ((tmOf l).d.map bv) := (o18.mod m1920 (by simp)).mod m21 (fun y hy hy' => by simp at hy'; exact (nx y hy).2 hy')
  refine ⟨_, _, _, _, _, _, _, _, _, _, _, _, _, _, hq21.cells, ?_⟩
  refine (tmRefEncode_ok (tmOf l) x k o21.rd).mono ?_
  rintro _ w22 ⟨y, n, rfl, r22, c22, m22, s22⟩
  have M22 := M21.none m22
  refine ⟨_, _, _, _, rfl, ?_⟩
  have j1 : ∀ b : Bool, b = !tmOk l → F14_j1 (base w.heap.size) (base w2.heap.size) b w22 (DecQ w l) := by
    intro b hb
    unfold F14_j1
    subst hb
    cases hk : tmOk l with
    | true =>
      rw [if_neg (by simp)]
      refine ⟨_, _, _, _, _, _, _, _, _, _, _, _, _, _, (hq21.mod m22 (by simp)).cells, ret12 (tmOf l) x k (hb21.mod m22 (by simp)) rfl fun w'' m'' => ?_⟩
      unfold DecQ
      rw [hdec, if_pos hk]
      exact ⟨x, k, rfl, (o21.mod m22 (by simp)).mod m'' (fun y hy hy' => by simp at hy'; exact (nx y hy).1 hy'), M22.trans m'' (fun y hy => .inr (by simp at hy; omega)), sx⟩
    | false =>
      rw [if_pos (by simp)]
      exact ret12 Tm.zero none 0 (hb21.mod m22 (by simp)) rfl fun w'' m'' => DecQ.bad (by rw [hdec, if_neg (by simp [hk])]) (M22.trans m'' (fun y hy => .inr (by simp at hy; omega)))
  refine iteI (fun he => j1 _ (by unfold tmOk; rw [decide_eq_false he]; rfl)) (fun he => ?_)
  have he : (cwDec (wordOf l)).2 = 0 := by simpa using he
  unfold Tm.out Tm.err at *
  by_cases hok : (tmOf l).ok = true
  · rw [if_pos hok] at r22 ⊢
    rw [if_pos hok, if_neg (by simp)]
    refine ⟨_, toStr_ok n r22, _, toStr_ok c (hr.mod M22 (by simp)), j1 _ ?_⟩
    rw [strEq]
    unfold tmOk
    rw [decide_eq_true he, hok]
    rfl
  · rw [if_neg hok] at r22 ⊢
    rw [if_neg hok, if_pos (by simp)]
    exact j1 _ (by unfold tmOk; simp [hok])
end Go.Proofs.Ytpioadkiomcdlaa
