/-
  The packer: Decode, Push, take, Idle.
-/
import Derived.Test.YtnaomgfdcadncaaPkt
namespace Go.Proofs.Ytnaomgfdcadncaa
open Go Go.Sh Go.Proofs
set_option linter.unusedVariables false
set_option linter.unusedSimpArgs false
set_option linter.unusedSectionVars false

theorem head_of {l : List UInt8} (id : Bool) (i m : Nat) (h : l.take 6 = hdr id i m) (hm : 1 ≤ m ∧ m ≤ 4090) : Head l (m + 6) := by
  have hl : 6 ≤ l.length := by
    have := congrArg List.length h
    rw [List.length_take] at this
    simp [hdr] at this
    omega
  have g : ∀ j, (hj : j < 6) → l[j]'(by omega) = (hdr id i m)[j]'(by simpa [hdr] using hj) := by
    intro j hj
    have : (l.take 6)[j]'(by rw [List.length_take]; omega) = l[j]'(by omega) := by simp
    rw [← this]
    simp only [h]
  refine ⟨hl, ?_, ?_, by omega⟩
  · rw [g 0 (by omega)]
    show (if id then (7 : UInt8) else 0).toNat < 32
    cases id <;> decide
  · rw [g 4 (by omega), g 5 (by omega)]
    show 7 + (UInt8.ofNat ((m - 1) / 256)).toNat * 256 + (UInt8.ofNat ((m - 1) % 256)).toNat = m + 6
    simp
    omega
theorem pk_take (id : Bool) (i : Nat) (d r : List UInt8) : (pk id i d ++ r).take 6 = hdr id i d.length := by
  unfold pk
  rw [List.append_assoc]
  exact List.take_left' (by simp [hdr])
theorem pk_head (id : Bool) (i : Nat) (d r : List UInt8) (hd : 1 ≤ d.length ∧ d.length ≤ 4090) : Head (pk id i d ++ r) (pk id i d).length := by
  rw [pk_len, Nat.add_comm]
  exact head_of id i _ (pk_take id i d r) hd

theorem size_ok {w : World} {a : Option Addr} {l : List UInt8} {n : Nat} (m c : Nat) (hm : m = l.length) (hc : m ≤ c) (hr : Rd w a (l.map bv)) (h : Head l n) : Does Try.prog 25 #[.slice a m c] w fun v w' => v = .tuple #[.int .i64 (n : Int), .int .i64 0] ∧ Mod [] w w' := by
  subst hm
  apply w25
  unfold F25
  have h6 := h.six
  rw [if_neg (by omega)]
  obtain ⟨p, rfl, h0⟩ := rd_get hr (i := 0) (by omega)
  refine ⟨p, rfl, by omega, by omega, _, h0, ?_⟩
  rw [if_neg (by rw [shr5 ⟨_, h.ver⟩]; simp)]
  refine ⟨by omega, by omega, ?_⟩
  have hr4 : Rd w (cutA (some p) c 4 1) ((l.drop 4).map bv) := by
    have := hr.cut (c := c) (l := 4) (z := 1) (by simp; omega)
    rw [Nat.mul_one, ← List.map_drop] at this
    exact this
  refine (word_ok (l := l.drop 4) _ (c - 4) hr4 (by rw [List.length_drop]; omega) (by rw [List.length_drop]; rfl)).mono ?_
  rintro _ _ ⟨rfl, rfl⟩
  refine ⟨_, rfl, ?_⟩
  have e : IntKind.i64.wrap ((7 : Int) + bor .i64 (shl .i64 (IntKind.i64.wrap (((l.drop 4)[0]'(by rw [List.length_drop]; omega)).toNat : Int)) 8) (IntKind.i64.wrap (((l.drop 4)[1]'(by rw [List.length_drop]; omega)).toNat : Int))) = (n : Int) := by
    rw [List.getElem_drop, List.getElem_drop]
    have h4 := (l[4]'(by omega)).toNat_lt
    have h5 := (l[5]'(by omega)).toNat_lt
    show IntKind.i64.wrap ((7 : Int) + bor .i64 (shl .i64 (IntKind.i64.wrap ((l[4]'(by omega)).toNat : Int)) 8) (IntKind.i64.wrap ((l[5]'(by omega)).toNat : Int))) = (n : Int)
    rw [wi64 (n := ((l[4]'(by omega)).toNat : Int)) (by omega), wi64 (n := ((l[5]'(by omega)).toNat : Int)) (by omega), shl8 ⟨_, h4⟩]
    simp only
    rw [borI (by omega) (by omega)]
    have e1 : (l[4]'(by omega)).toNat * 256 ||| (l[5]'(by omega)).toNat = (l[4]'(by omega)).toNat * 256 + (l[5]'(by omega)).toNat := by
      have := Nat.two_pow_add_eq_or_of_lt (i := 8) (b := (l[5]'(by omega)).toNat) h5 (l[4]'(by omega)).toNat
      rw [Nat.mul_comm] at this
      exact this.symm
    rw [e1, wi64 (by omega)]
    have := h.len
    omega
  rw [e, if_neg (by have := h.max; omega)]
  exact ⟨rfl, Mod.drew w⟩

theorem decode_ok {w : World} {a : Option Addr} (i : Nat) {d : List UInt8} (c : Nat) (hi : i < 20) (hd : 1 ≤ d.length ∧ d.length ≤ 4090) (hc : (pk false i d).length ≤ c) (hr : Rd w a ((pk false i d).map bv)) : Does Try.prog 15 #[.slice a (pk false i d).length c] w fun v w' => (∃ x k, v = .tuple #[pval false i x d.length k, .int .i64 ((pk false i d).length : Int), .int .i64 0]) ∧ Mod [] w w' := by
  have hpl := pk_len false i d
  apply w15
  unfold F15
  refine New.use fun w1 hb m1 z1 => ?_
  have hh := pk_head false i d [] hd
  rw [List.append_nil] at hh
  refine (size_ok _ c rfl hc (hr.mod m1 (by simp)) hh).mono ?_
  rintro _ w2 ⟨rfl, m2⟩
  refine ⟨_, _, rfl, ?_⟩
  rw [if_neg (by simp), if_neg (by omega)]
  refine ⟨by omega, by omega, ?_⟩
  have M2 := (m1.none m2).none (Mod.drew w2)
  refine (word_ok _ c (hr.mod M2 (by simp)) (by omega) rfl).mono ?_
  rintro _ _ ⟨rfl, rfl⟩
  refine ⟨_, rfl, ?_⟩
  have M3 := M2.none (Mod.drew w2.drew)
  have hr2 : Rd w2.drew.drew (cutA a c 2 1) (((pk false i d).drop 2).map bv) := by
    have := (hr.mod M3 (by simp)).cut (c := c) (l := 2) (z := 1) (by simp; omega)
    rw [Nat.mul_one, ← List.map_drop] at this
    exact this
  refine (word_ok (l := (pk false i d).drop 2) _ (c - 2) hr2 (by rw [List.length_drop]; omega) (by rw [List.length_drop]; rfl)).mono ?_
  rintro _ _ ⟨rfl, rfl⟩
  refine ⟨_, rfl, by omega, by omega, by omega, by omega, ?_⟩
  have M4 := M3.none (Mod.drew w2.drew.drew)
  have hr6 : Rd w2.drew.drew.drew (cutA a (pk false i d).length 6 1) (d.map bv) := by
    have := (hr.mod M4 (by simp)).cut (c := (pk false i d).length) (l := 6) (z := 1) (by simp)
    rw [Nat.mul_one, ← List.map_drop] at this
    have e : (pk false i d).drop 6 = d := by unfold pk; exact List.drop_left' (by simp [hdr])
    rw [e] at this
    exact this
  have el : (pk false i d).length - 6 = d.length := by omega
  rw [Int.toNat_natCast, show ((6 : Int).toNat) = 6 from rfl, el]
  refine (clone16 d.length hr6 (by omega)).mono ?_
  rintro _ w3 ⟨x, k, rfl, o3, m3, f3, _⟩
  refine ⟨_, _, _, rfl, New.put rfl fun w4 hb4 m4 z4 => ?_⟩
  have M5 := (M4.none m3).none m4
  refine ⟨_, _, _, _, _, _, _, _, hb4.cells, ?_⟩
  have f0 : (pk false i d)[0]'(by omega) = 0 := rfl
  have f1 : (pk false i d)[1]'(by omega) = 7 := rfl
  have f2 : ((pk false i d).drop 2)[0]'(by rw [List.length_drop]; omega) = 192 := rfl
  have f3' : ((pk false i d).drop 2)[1]'(by rw [List.length_drop]; omega) = UInt8.ofNat i := rfl
  obtain ⟨s1, s2⟩ := secD ⟨i, hi⟩
  simp only at s1 s2
  have t192 : ((192 : UInt8).toNat : Int) = 192 := rfl
  have ti : ((UInt8.ofNat i).toNat : Int) = (i : Int) := by simp; omega
  have c1 : decide (band .i64 (bor .i64 (shl .i64 (IntKind.i64.wrap ((0 : UInt8).toNat : Int)) 8) (IntKind.i64.wrap ((7 : UInt8).toNat : Int))) 4096 ≠ 0) = false := by decide
  have c2 : decide (band .i64 (bor .i64 (shl .i64 (IntKind.i64.wrap ((0 : UInt8).toNat : Int)) 8) (IntKind.i64.wrap ((7 : UInt8).toNat : Int))) 2048 ≠ 0) = false := by decide
  have c3 : band .i64 (bor .i64 (shl .i64 (IntKind.i64.wrap ((0 : UInt8).toNat : Int)) 8) (IntKind.i64.wrap ((7 : UInt8).toNat : Int))) 2047 = 7 := by decide
  rw [f0, f1, f2, f3', t192, ti, s1, s2, c1, c2, c3] at hb4 ⊢
  refine (valid_ok false i k hi hd (by simp) (o3.rd.mod m4 (by simp))).mono ?_
  rintro _ w5 ⟨rfl, m5⟩
  refine ⟨_, rfl, ?_⟩
  rw [if_neg (by simp)]
  refine ⟨_, _, _, _, _, _, _, _, (hb4.mod m5 (by simp)).cells, ?_⟩
  have hb5 := (((hb.mod m2 (by simp)).drew.drew.drew.mod m3 (by simp)).mod m4 (by simp)).mod m5 (by simp)
  refine PutAll.use hb5 rfl fun w6 hb6 m6 => ?_
  exact ⟨_, _, _, _, _, _, _, _, hb6.cells, ⟨x, k, rfl⟩, (M5.none m5).trans m6 (fun y hy => .inr (by simp at hy; omega))⟩

/-! ### The packer's memory -/
def Dt.ok (w : World) (d : Dt) : Prop := Own w 5 1 d.a d.l.length d.c (d.l.map bv)
def Pkr (w : World) (gp size left taken : Nat) (W : List Dt) (wa : Option Addr) (r : Option Addr × Nat × Nat) : Prop :=
  ∃ wc, Blk w gp 43 [iv size, .int .i64 8192, iv left, iv taken, .slice wa W.length wc, .slice r.1 r.2.1 r.2.2] ∧ Own w 29 1 wa W.length wc (W.map Dt.val) ∧ ∀ d ∈ W, d.ok w

section
variable {w : World} {gp size left taken : Nat} {W : List Dt} {wa : Option Addr} {r : Option Addr × Nat × Nat} (h : Pkr w gp size left taken W wa r)
include h
theorem Pkr.mod {S : List Nat} {w' : World} (m : Mod S w w') (hg : gp ∉ S) (hw : ∀ x ∈ fp wa, x ∉ S) (hd : ∀ d ∈ W, ∀ x ∈ fp d.a, x ∉ S) : Pkr w' gp size left taken W wa r := by
  obtain ⟨wc, b, o, k⟩ := h
  exact ⟨wc, b.mod m hg, o.mod m hw, fun d hd' => (k d hd').mod m (hd d hd')⟩
theorem Pkr.none {w' : World} (m : Mod [] w w') : Pkr w' gp size left taken W wa r := h.mod m (by simp) (by simp) (by simp)
/-- Beside a block of another type. -/
theorem Pkr.typ {w' : World} {x t : Nat} {vs : List Value} (m : Mod [x] w w') (hb : Blk w x t vs) (h1 : t ≠ 43) (h2 : t ≠ 29) (h3 : t ≠ 5) : Pkr w' gp size left taken W wa r := by
  obtain ⟨wc, b, o, k⟩ := id h
  refine h.mod m ?_ ?_ ?_
  · simp; exact Blk.ne b hb (fun e => h1 e.symm)
  · intro y hy hy'; simp at hy'; subst hy'; exact o.ne hb (fun e => h2 e.symm) hy
  · intro d hd y hy hy'; simp at hy'; subst hy'; exact (k d hd).ne hb (fun e => h3 e.symm) hy
theorem pnone_ok (hs : 1 ≤ size) : Does Try.prog 14 #[.pointer (some (base gp))] w fun v w' => v = .bool false ∧ w = w' := by
  apply w14
  unfold F14
  rw [if_neg (by simp)]
  obtain ⟨wc, b, o, k⟩ := h
  refine ⟨_, rfl, _, b.cell0, ?_, rfl⟩
  rw [decide_eq_false (by omega)]
theorem left_ok (hs : 1 ≤ size) : Does Try.prog 11 #[.pointer (some (base gp))] w fun v w' => v = .int .i64 (left : Int) ∧ w = w' := by
  apply w11
  unfold F11
  refine (pnone_ok h hs).mono ?_
  rintro _ _ ⟨rfl, rfl⟩
  refine ⟨_, rfl, ?_⟩
  rw [if_neg (by simp)]
  obtain ⟨wc, b, o, k⟩ := h
  exact ⟨_, rfl, _, b.cell (i := 2) rfl, rfl, rfl⟩

theorem push_ok (hs : 1 ≤ size) {a : Option Addr} (i : Nat) {d : List UInt8} (c : Nat) (hi : i < 20) (hd : 1 ≤ d.length ∧ d.length ≤ 4090) (hc : (pk false i d).length ≤ c) (hr : Rd w a ((pk false i d).map bv)) (hroom : left + (pk false i d).length ≤ 8192) (hW : W.length ≤ 1000) :
    Does Try.prog 7 #[.pointer (some (base gp)), .slice a (pk false i d).length c] w fun v w' => v = .int .i64 0 ∧ Mod (gp :: fp wa) w w' ∧ ∃ wa' a' c', (∀ x ∈ fp wa', x ∈ fp wa ∨ w.heap.size ≤ x) ∧ Pkr w' gp size (left + (pk false i d).length) taken (W ++ [⟨a', pk false i d, c'⟩]) wa' r := by
  apply w7
  unfold F7
  refine (pnone_ok h hs).mono ?_
  rintro _ _ ⟨rfl, rfl⟩
  refine ⟨_, rfl, ?_⟩
  rw [if_neg (by simp)]
  refine (decode_ok i c hi hd hc hr).mono ?_
  rintro _ w1 ⟨⟨x, k, rfl⟩, m1⟩
  refine ⟨_, _, _, _, _, _, _, _, _, _, rfl, New.put rfl fun w2 hb2 m2 z2 => ?_⟩
  rw [if_neg (by simp), if_neg (by simp)]
  refine ⟨_, hb2.cell (i := 2) rfl, ?_⟩
  rw [if_neg (by decide)]
  have M2 := m1.none m2
  obtain ⟨wc, b, o, kk⟩ := id h
  have b2 := b.mod M2 (by simp)
  refine ⟨_, rfl, _, b2.drew.cell (i := 2) rfl, _, b2.drew.cell (i := 1) rfl, ?_⟩
  rw [wi64 (by omega), if_neg (by omega)]
  refine ⟨_, _, _, b2.drew.drew.cell (i := 4) rfl, ?_⟩
  have M3 := (M2.none (Mod.drew w2)).none (Mod.drew w2.drew)
  refine (clone16 c (hr.mod M3 (by simp)) (by omega)).mono ?_
  rintro _ w4 ⟨a', c', rfl, o4, m4, f4, _⟩
  have M4 := M3.none m4
  refine ⟨_, _, _, rfl, (b.mod M4 (by simp)).cell (i := 4) rfl, New.use fun w5 hb5 m5 z5 => ?_⟩
  have M5 := M4.none m5
  refine ⟨(b.mod M5 (by simp)).cell (i := 4) rfl, ?_⟩
  have o5 := o.mod M5 (by simp)
  obtain ⟨wa', wc', w6, run, o6, m6, f6⟩ := append_own (m := 1) (d := 1) Try.underlying28 elem29 28 o5 (Rd.blk hb5) rfl (by simp [one]) (by omega) (by omega)
  have b5 := b.mod M5 (by simp)
  have b6 := b5.mod m6 (o5.ne b5 (by decide))
  have no5 : ∀ {a : Option Addr} {n c : Nat} {vs : List Value}, Own w5 5 1 a n c vs → Own w6 5 1 a n c vs := by
    intro a n c vs q
    refine ⟨q.1, ?_⟩
    rcases q.2 with h' | ⟨g, r, rfl, hb, h'⟩
    · exact .inl h'
    · exact .inr ⟨g, r, rfl, hb.mod m6 (fun hx => o5.ne hb (by decide) hx), h'⟩
  have M6 : Mod (fp wa) w w6 := (M5.weaken (by simp)).same m6
  have o4' : Own w6 5 1 a' (pk false i d).length c' ((pk false i d).map bv) := no5 (o4.mod m5 (by simp))
  have kk6 : ∀ d ∈ W, d.ok w6 := fun d hd => no5 ((kk d hd).mod M5 (by simp))
  refine ⟨_, _, _, w6, run, Put.use b6 (by simp) fun w7 b7 m7 => ?_⟩
  refine ⟨_, b7.cell (i := 2) rfl, Put.use b7 (by simp) fun w8 b8 m8 => ?_⟩
  have m78 := m7.same m8
  refine ⟨rfl, (M6.weaken (by intro y hy; exact .inl (List.mem_cons_of_mem _ hy))).trans m78 (fun y hy => .inl (by simp at hy; simp [hy])), wa', a', c', fun y hy => ?_, wc', ?_, ?_, fun e he => ?_⟩
  · have := M5.size
    rcases f6 with hh | hh <;> rw [hh] at hy
    · exact .inl hy
    · simp at hy; right; omega
  · have e : IntKind.i64.wrap ((left : Int) + ((pk false i d).length : Int)) = ((left + (pk false i d).length : Nat) : Int) := by rw [wi64 (by omega)]; omega
    rw [e] at b8
    rw [List.length_append]
    exact b8
  · rw [List.length_append, List.map_append]
    exact o6.mod m78 (fun y hy hy' => by simp at hy'; subst hy'; exact o6.ne b6 (by decide) hy)
  · have st : ∀ {e : Dt}, e.ok w6 → e.ok w8 := fun q => q.mod m78 (fun y hy hy' => by simp at hy'; subst hy'; exact q.ne b6 (by decide) hy)
    rcases List.mem_append.1 he with he | he
    · exact st (kk6 e he)
    · have e' := List.mem_singleton.1 he
      subst e'
      exact st o4'
end
end Go.Proofs.Ytnaomgfdcadncaa
