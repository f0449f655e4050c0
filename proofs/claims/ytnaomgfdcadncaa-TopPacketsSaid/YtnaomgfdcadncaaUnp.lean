/-
  The unpacker: count, fitting, packets, Take.
-/
import Derived.Test.YtnaomgfdcadncaaPacker
namespace Go.Proofs.Ytnaomgfdcadncaa
open Go Go.Sh Go.Proofs
set_option linter.unusedVariables false
set_option linter.unusedSimpArgs false
set_option linter.unusedSectionVars false

/-! ### Numbers -/
theorem serialOk (n : Nat) (h : n < 256) (w : World) : Does Try.prog 33 #[.int .i64 (n : Int), .int .i64 8] w fun v w' => v = .bool true ∧ w = w' := by
  apply w33
  unfold F33
  rw [if_pos (by decide), if_pos (by decide), if_pos (by omega)]
  refine ⟨by decide, ?_, rfl⟩
  have e : shl .i64 1 8 = 256 := by decide
  rw [e, decide_eq_true (by omega)]
theorem add_ok (n : Nat) (h : n < 256) (x : Int) (w : World) : Does Try.prog 29 #[.int .i64 (n : Int), .int .i64 x, .int .i64 8] w fun v w' => v = .int .i64 (((n : Int) + x) % 256) ∧ w = w' := by
  apply w29
  unfold F29
  refine (serialOk n h w).mono ?_
  rintro _ _ ⟨rfl, rfl⟩
  refine ⟨_, rfl, ?_⟩
  rw [if_neg (by simp)]
  have e : shl .u64 1 8 = 256 := by decide
  rw [e]
  refine ⟨by decide, by decide, ?_, rfl⟩
  rw [wu64, wu64, wu64, Int.tmod_eq_emod_of_nonneg (by omega), wi64 (by omega)]
  congr 1
  omega
theorem dist_ok (a b : Nat) (ha : a < 256) (hb : b < 256) (w : World) : Does Try.prog 28 #[.int .i64 (a : Int), .int .i64 (b : Int), .int .i64 8] w fun v w' => v = .int .i64 (((b + 256 - a) % 256 : Nat) : Int) ∧ w = w' := by
  apply w28
  unfold F28
  refine (serialOk a ha w).mono ?_
  rintro _ _ ⟨rfl, rfl⟩
  refine ⟨_, rfl, ?_⟩
  rw [if_neg (by simp)]
  refine (serialOk b hb _).mono ?_
  rintro _ _ ⟨rfl, rfl⟩
  refine ⟨_, rfl, ?_⟩
  rw [if_neg (by simp), wi64 (by omega)]
  refine (add_ok b hb _ _).mono ?_
  rintro _ _ ⟨rfl, rfl⟩
  refine ⟨_, rfl, ?_, rfl⟩
  congr 1
  omega

/-! ### Memory -/
def Upk (w : World) (gu : Nat) (begun st : Bool) (next : Nat) (R : List UInt8) : Prop :=
  ∃ (lost : Int) (ra : Option Addr) (rc : Nat), Blk w gu 45 [.bool true, .bool begun, .bool st, iv next, .int .i64 lost, .slice ra R.length rc] ∧ Win w 5 1 ra R.length rc (R.map bv)
theorem win_apart {w : World} {e z n c e' z' m d : Nat} {a b : Option Addr} {vs us : List Value} (h : Win w e z a n c vs) (h' : Own w e' z' b m d us) (hne : e ≠ e') : ∀ y ∈ fp a, y ∉ fp b := by
  rcases h'.2 with ⟨rfl, _⟩ | ⟨g, r, rfl, hb, _⟩
  · simp [fp]
  · intro y hy hy'
    have : y = g := by simpa [fp, base] using hy'
    subst this
    exact h.ne hb hne hy
theorem own_apart' {w : World} {e z n c e' z' m d : Nat} {a b : Option Addr} {vs us : List Value} (h : Own w e z a n c vs) (h' : Own w e' z' b m d us) (hne : e ≠ e') : ∀ y ∈ fp b, y ∉ fp a := by
  rcases h'.2 with ⟨rfl, _⟩ | ⟨g, r, rfl, hb, _⟩
  · simp [fp]
  · intro y hy
    have : y = g := by simpa [fp, base] using hy
    subst this
    exact h.ne hb hne
section
variable {w : World} {gu next : Nat} {begun st : Bool} {R : List UInt8} (h : Upk w gu begun st next R)
include h
theorem Upk.none {w' : World} (m : Mod [] w w') : Upk w' gu begun st next R := by
  obtain ⟨lo, ra, rc, b, o⟩ := h
  exact ⟨lo, ra, rc, b.mod m (by simp), o.mod m (by simp)⟩
theorem Upk.own {w' : World} {z n c : Nat} {a : Option Addr} {t : Nat} {vs : List Value} (o' : Own w t z a n c vs) (h1 : t ≠ 45) (h2 : t ≠ 5) (m : Mod (fp a) w w') : Upk w' gu begun st next R := by
  obtain ⟨lo, ra, rc, b, o⟩ := h
  exact ⟨lo, ra, rc, b.mod m (o'.ne b h1), o.mod m (win_apart o o' (fun e => h2 e.symm))⟩
theorem Upk.typ {w' : World} {x t : Nat} {vs : List Value} (m : Mod [x] w w') (hb : Blk w x t vs) (h1 : t ≠ 45) (h2 : t ≠ 5) : Upk w' gu begun st next R := by
  obtain ⟨lo, ra, rc, b, o⟩ := h
  refine ⟨lo, ra, rc, b.mod m ?_, o.mod m ?_⟩
  · simp; exact Blk.ne b hb (fun e => h1 e.symm)
  · intro y hy hy'; simp at hy'; subst hy'; exact o.ne hb (fun e => h2 e.symm) hy
theorem Upk.lt : gu < w.heap.size := by
  obtain ⟨lo, ra, rc, b, o⟩ := h
  exact b.lt

/-- In step after a frame's number. -/
def inStep (begun st : Bool) (next n : Nat) : Bool := st && (!begun || decide ((n + 256 - next) % 256 = 0))
theorem count_ok (n : Nat) (hn : n < 256) (hx : next < 256) : Does Try.prog 19 #[.pointer (some (base gu)), .int .i64 (n : Int)] w fun v w' => v = .tuple #[] ∧ Mod [gu] w w' ∧ Upk w' gu true (inStep begun st next n) ((n + 1) % 256) R := by
  apply w19
  unfold F19
  have key : ∀ (w1 : World) (b' s' : Bool), Mod [gu] w w1 → Upk w1 gu b' s' next R → F19_j1 (n : Int) (some (base gu)) w1 (fun v w' => v = .tuple #[] ∧ Mod [gu] w w' ∧ Upk w' gu true s' ((n + 1) % 256) R) := by
    intro w1 b' s' m1 h1
    unfold F19_j1
    refine (add_ok n hn 1 w1).mono ?_
    rintro _ _ ⟨rfl, rfl⟩
    obtain ⟨lo, ra, rc, b, o⟩ := h1
    have e : ((n : Int) + 1) % 256 = (((n + 1) % 256 : Nat) : Int) := by omega
    rw [e]
    refine ⟨_, rfl, _, rfl, Put.use b (by simp) fun w2 b2 m2 => Put.use b2 (by simp) fun w3 b3 m3 => ⟨rfl, (m1.same m2).same m3, lo, ra, rc, b3, o.mod (m2.same m3) ?_⟩⟩
    intro y hy hy'; simp at hy'; subst hy'; exact o.ne b (by decide) hy
  obtain ⟨lo, ra, rc, b, o⟩ := id h
  refine ⟨_, rfl, _, b.cell (i := 1) rfl, iteI (fun hb => ?_) (fun hb => ?_)⟩
  · refine ⟨_, b.cell (i := 3) rfl, (dist_ok next n hx hn w).mono ?_⟩
    rintro _ _ ⟨rfl, rfl⟩
    refine ⟨_, rfl, _, b.cell (i := 4) rfl, Put.use b (by simp) fun w1 b1 m1 => ?_⟩
    have o1 := o.mod m1 (fun y hy hy' => by simp at hy'; subst hy'; exact o.ne b (by decide) hy)
    refine ⟨_, b1.cell (i := 2) rfl, iteI (fun hs => ?_) (fun hs => ?_)⟩
    · refine Put.use b1 (by simp) fun w2 b2 m2 => ?_
      refine key w2 begun (inStep begun st next n) (m1.same m2) ⟨IntKind.i64.wrap (lo + (((n + 256 - next) % 256 : Nat) : Int)), ra, rc, ?_, o1.mod m2 (fun y hy hy' => by simp at hy'; subst hy'; exact o1.ne b1 (by decide) hy)⟩
      have e : decide ((((n + 256 - next) % 256 : Nat) : Int) = 0) = inStep begun st next n := by
        unfold inStep
        rw [hs, hb]
        simp
        omega
      rw [e] at b2
      exact b2
    · refine Put.use b1 (by simp) fun w2 b2 m2 => ?_
      refine key w2 begun (inStep begun st next n) (m1.same m2) ⟨IntKind.i64.wrap (lo + (((n + 256 - next) % 256 : Nat) : Int)), ra, rc, ?_, o1.mod m2 (fun y hy hy' => by simp at hy'; subst hy'; exact o1.ne b1 (by decide) hy)⟩
      have e : false = inStep begun st next n := by
        unfold inStep
        simp at hs
        rw [hs]
        rfl
      rw [← e]
      exact b2
  · have e : inStep begun st next n = st := by
      unfold inStep
      simp at hb
      rw [hb]
      simp
    rw [e]
    exact key w begun st (Mod.refl w) h
end

theorem fit_ok {w : World} {ra da : Option Addr} {R D : List UInt8} (rc dc n : Nat) (hR : Rd w ra (R.map bv)) (hD : Rd w da (D.map bv)) (hd : 6 ≤ D.length ∧ D.length ≤ 3000) (hdc : D.length ≤ dc) (hr : R.length ≤ 5000) (hh : R ≠ [] → Head (R ++ D.take 6) n ∧ R.length ≤ n) :
    Does Try.prog 20 #[.slice ra R.length rc, .slice da D.length dc] w fun v w' => v = .tuple #[.int .i64 (((if R.length = 0 then 0 else if n - R.length < D.length then n - R.length else 2047) : Nat) : Int), .bool true] ∧ Mod [] w w' := by
  apply w20
  unfold F20
  rw [if_neg (by omega)]
  refine iteI (fun h0 => ?_) (fun h0 => ?_)
  · rw [if_pos (by omega)]
    exact ⟨rfl, Mod.refl w⟩
  have h0 : 0 < R.length := by omega
  rw [if_neg (show ¬ R.length = 0 by omega)]
  have hne : R ≠ [] := fun e => by rw [e] at h0; simp at h0
  obtain ⟨hd1, hn⟩ := hh hne
  rw [if_neg (by rw [wi64 (by omega)]; omega)]
  have e6 : min (D.length : Int) 6 = 6 := by omega
  rw [e6]
  refine ⟨by omega, by omega, New.use fun w1 b1 m1 z1 => ?_⟩
  have l6 : (D.take 6).length = 6 := by rw [List.length_take]; omega
  have cc := concat_ok (w := w1) (p := some (base w.heap.size)) 2 (L := [⟨ra, R, rc⟩, ⟨da, D.take 6, dc⟩]) (Rd.blk (by
    have e : [(⟨ra, R, rc⟩ : Dt), ⟨da, D.take 6, dc⟩].map Dt.val = [.slice ra R.length rc, .slice da ((6 : Int).toNat) dc] := by
      show [Value.slice ra R.length rc, Value.slice da (D.take 6).length dc] = _
      rw [l6]
      rfl
    rw [e]
    exact b1)) (fun d hd => by
      simp at hd
      rcases hd with rfl | rfl
      · exact hR.mod m1 (by simp)
      · show Rd w1 da ((D.take 6).map bv)
        rw [List.map_take]
        exact (hD.mod m1 (by simp)).take 6) (by simp) (by simp; omega)
  refine cc.mono ?_
  rintro _ w2 ⟨x, k, rfl, o2, m2, f2⟩
  have ef : [(⟨ra, R, rc⟩ : Dt), ⟨da, D.take 6, dc⟩].flatMap (·.l) = R ++ D.take 6 := by simp
  rw [ef] at o2 ⊢
  refine ⟨_, _, _, rfl, (length_ok _ _ rfl o2.rd hd1).mono ?_⟩
  rintro _ _ ⟨rfl, rfl⟩
  refine ⟨_, _, rfl, ?_⟩
  have M := (m1.none m2).none (Mod.drew w2)
  have hmx := hd1.max
  rw [if_neg (by simp), wi64 (by omega)]
  have e1 : (n : Int) - (R.length : Int) = ((n - R.length : Nat) : Int) := by omega
  rw [e1]
  refine iteI (fun hlt => ?_) (fun hlt => ?_)
  · rw [if_pos (by omega)]; exact ⟨rfl, M⟩
  · rw [if_neg (by omega)]; exact ⟨rfl, M⟩

/-! ### packets -/
/-- A packet of this law. -/
def isP (e : Bool × List UInt8) : Prop := ∃ i d, i < 20 ∧ 1 ≤ d.length ∧ d.length ≤ 4090 ∧ e.2 = pk e.1 i d
def flat (L : List (Bool × List UInt8)) : List UInt8 := (L.map (·.2)).flatten
def psum (L : List (Bool × List UInt8)) (c : Nat) : Nat := (flat (L.take c)).length
theorem flat_split (L : List (Bool × List UInt8)) (c : Nat) : flat L = flat (L.take c) ++ flat (L.drop c) := by
  unfold flat
  rw [← List.flatten_append, ← List.map_append, List.take_append_drop]
theorem psum_succ {L : List (Bool × List UInt8)} {c : Nat} (h : c < L.length) : psum L (c + 1) = psum L c + L[c].2.length := by
  unfold psum flat
  rw [List.take_succ_eq_append_getElem h, List.map_append, List.flatten_append, List.length_append]
  simp
theorem psum_le (L : List (Bool × List UInt8)) (c : Nat) : psum L c + (flat (L.drop c)).length = (flat L).length := by
  rw [flat_split L c, List.length_append]
  rfl
theorem flat_drop {L : List (Bool × List UInt8)} {c : Nat} (h : c < L.length) : flat (L.drop c) = L[c].2 ++ flat (L.drop (c + 1)) := by
  unfold flat
  rw [List.drop_eq_getElem_cons h, List.map_cons, List.flatten_cons]

def Brk (L : List (Bool × List UInt8)) (c m : Nat) : Prop := ∀ h : c < L.length, m < psum L c + L[c].2.length
/-- What packets leaves. -/
def Res (w w' : World) (gu : Nat) (b : Bool) (nx : Nat) (L : List (Bool × List UInt8)) (m : Nat) (v : Value) : Prop :=
  Mod [gu] w w' ∧ ∃ c oa oc, ∃ outs : List Dt, v = .slice oa outs.length oc ∧ Own w' 29 1 oa outs.length oc (outs.map Dt.val) ∧ (∀ d ∈ outs, d.ok w') ∧ outs.map (·.l) = ((L.take c).filter (fun e => !e.1)).map (·.2) ∧ c ≤ L.length ∧ psum L c ≤ m ∧ Brk L c m ∧ Upk w' gu b true nx ((flat (L.drop c)).take (m - psum L c)) ∧ ∀ y ∈ fp oa, w.heap.size ≤ y

theorem apids : bor .i64 (shl .i64 (IntKind.i64.wrap (band .u8 ((0 : UInt8).toNat : Int) 7)) 8) (IntKind.i64.wrap ((7 : UInt8).toNat : Int)) = 7 ∧ bor .i64 (shl .i64 (IntKind.i64.wrap (band .u8 ((7 : UInt8).toNat : Int) 7)) 8) (IntKind.i64.wrap ((255 : UInt8).toNat : Int)) = 2047 := by decide

theorem packets_ok {w : World} {gu nx m : Nat} {b : Bool} {L : List (Bool × List UInt8)} (h : Upk w gu b true nx ((flat L).take m)) (hL : ∀ e ∈ L, isP e) (hm : m ≤ (flat L).length) (hmm : m ≤ 100000) (hLl : L.length ≤ 1000) :
    Does Try.prog 23 #[.pointer (some (base gu))] w fun v w' => Res w w' gu b nx L m v := by
  apply w23
  unfold F23
  have e0 : (flat (L.drop 0)).take (m - psum L 0) = (flat L).take m := rfl
  refine LoopP.mk (fun k (x : Option Addr × Nat × Nat) w' => ∃ (c : Nat) (oa : Option Addr) (oc : Nat) (outs : List Dt), k = L.length - c ∧ x = (oa, outs.length, oc) ∧ Mod [gu] w w' ∧ Own w' 29 1 oa outs.length oc (outs.map Dt.val) ∧ (∀ d ∈ outs, d.ok w') ∧ outs.map (·.l) = ((L.take c).filter (fun e => !e.1)).map (·.2) ∧ c ≤ L.length ∧ psum L c ≤ m ∧ Upk w' gu b true nx ((flat (L.drop c)).take (m - psum L c)) ∧ outs.length ≤ c ∧ ∀ y ∈ fp oa, w.heap.size ≤ y) L.length ⟨0, none, 0, [], rfl, rfl, Mod.refl w, Own.nil, by simp, rfl, by omega, Nat.zero_le _, by rw [e0]; exact h, by simp, by simp [fp]⟩ ?_
  rintro _ _ w1 ⟨c, oa, oc, outs, rfl, rfl, M1, o1, d1, eo, hc, hp, h1, hol, f1⟩
  have zz := M1.size
  have hps := psum_le L c
  obtain ⟨R, hR⟩ : ∃ R, R = (flat (L.drop c)).take (m - psum L c) := ⟨_, rfl⟩
  have hRl : R.length = m - psum L c := by rw [hR, List.length_take]; omega
  have stop : Brk L c m → ∀ w2, Mod [] w1 w2 → Res w w2 gu b nx L m (.slice oa outs.length oc) := fun hs w2 m2 =>
    ⟨M1.none m2, c, oa, oc, outs, rfl, o1.mod m2 (by simp), fun d hd => (d1 d hd).mod m2 (by simp), eo, hc, hp, hs, h1.none m2, f1⟩
  unfold F23_b1
  dsimp only
  rw [← hR] at h1
  obtain ⟨lo, ra, rc, bb, oo⟩ := id h1
  refine ⟨_, rfl, _, _, _, bb.cell (i := 5) rfl, iteI (fun h6 => ?_) (fun h6 => ?_)⟩
  · have h6 : 6 ≤ R.length := by omega
    have hcL : c < L.length := by
      rcases Nat.lt_or_ge c L.length with hh | hh
      · exact hh
      · rw [List.drop_of_length_le hh] at hps
        have : (flat []).length = 0 := rfl
        omega
    have hfd := flat_drop hcL
    obtain ⟨i, d, hi, hd1, hd2, hpk⟩ := hL _ (List.getElem_mem hcL)
    obtain ⟨E, hE⟩ : ∃ E, E = L[c].2 := ⟨_, rfl⟩
    rw [← hE] at hpk hfd
    have hEl : E.length = d.length + 6 := by rw [hpk, pk_len]; omega
    have hhead : Head R E.length := by
      rw [hEl]
      refine head_of L[c].1 i d.length ?_ ⟨hd1, hd2⟩
      rw [hR, hfd, List.take_take, Nat.min_eq_left (by omega), hpk]
      exact pk_take _ _ _ _
    refine ⟨_, _, _, bb.cell (i := 5) rfl, (length_ok _ _ rfl oo.rd hhead).mono ?_⟩
    rintro _ _ ⟨rfl, rfl⟩
    refine ⟨_, _, rfl, ?_⟩
    rw [if_neg (by simp)]
    refine ⟨_, _, _, bb.drew.cell (i := 5) rfl, iteI (fun hlt => ?_) (fun hlt => ?_)⟩
    · exact stop (fun h => by rw [← hE]; clear stop; omega) _ (Mod.drew w1)
    have hge : E.length ≤ R.length := by omega
    have hrt : R.take E.length = E := by
      rw [hR, hfd, List.take_take, Nat.min_eq_left (by omega), List.take_left]
    have ole := oo.le
    refine ⟨_, _, _, bb.drew.cell (i := 5) rfl, by omega, by omega, ?_⟩
    rw [Int.toNat_natCast]
    have rdE : Rd w1.drew ra (E.map bv) := by
      have := oo.rd.drew.take E.length
      rw [← List.map_take, hrt] at this
      exact this
    refine (clone22 rc rdE (by omega)).mono ?_
    rintro _ w2 ⟨x, k, rfl, o2, m2, f2⟩
    have m12 : Mod [] w1 w2 := (Mod.drew w1).none m2
    have b2 := bb.mod m12 (by simp)
    have oo2 := oo.mod m12 (by simp)
    refine ⟨_, _, _, rfl, _, _, _, b2.cell (i := 5) rfl, by omega, by omega, Put.use b2 (by simp) fun w3 b3 m3 => ?_⟩
    have m13 : Mod [gu] w1 w3 := (m12.weaken (by simp)).same m3
    have oo3 := oo2.mod m3 (fun y hy hy' => by simp at hy'; subst hy'; exact oo2.ne b2 (by decide) hy)
    have o3 := o2.mod m3 (fun y hy hy' => by simp at hy'; subst hy'; exact o2.ne b2 (by decide) hy)
    have cut := oo3.cut hge
    rw [Nat.mul_one, ← List.map_drop] at cut
    have hrd : R.drop E.length = (flat (L.drop (c + 1))).take (m - psum L (c + 1)) := by
      rw [hR, hfd, psum_succ hcL, ← hE, List.drop_take, List.drop_left, Nat.sub_sub]
    have hps1 := psum_succ hcL
    rw [← hE] at hps1
    have h3 : Upk w3 gu b true nx ((flat (L.drop (c + 1))).take (m - psum L (c + 1))) := by
      rw [← hrd]
      refine ⟨lo, cutA ra rc E.length 1, rc - E.length, ?_, ?_⟩
      · rw [List.length_drop]
        exact b3
      · rw [List.length_drop]
        exact cut
    have e0' : ∃ (x0 x1 : UInt8) (hl : 2 ≤ E.length), E[0] = x0 ∧ E[1] = x1 ∧ ((L[c].1 = true → x0 = 7 ∧ x1 = 255) ∧ (L[c].1 = false → x0 = 0 ∧ x1 = 7)) := by
      refine ⟨E[0]'(by omega), E[1]'(by omega), by omega, rfl, rfl, fun hid => ?_, fun hid => ?_⟩
      · rw [hid] at hpk
        subst hpk
        exact ⟨rfl, rfl⟩
      · rw [hid] at hpk
        subst hpk
        exact ⟨rfl, rfl⟩
    obtain ⟨x0, x1, hl2, g0, g1, ht, hff⟩ := e0'
    obtain ⟨p, rfl, q0⟩ := rd_get o3.rd.drew (i := 0) (by omega)
    obtain ⟨p', hp', q1⟩ := rd_get o3.rd.drew (i := 1) (by omega)
    cases hp'
    rw [g0] at q0
    rw [g1] at q1
    refine ⟨p, rfl, by omega, by omega, _, q0, by omega, by omega, _, q1, ?_⟩
    have o1' := o1.mod m13 (fun y hy hy' => by simp at hy'; subst hy'; exact o1.ne bb (by decide) hy)
    have d1' : ∀ d ∈ outs, d.ok w3 := fun d hd => (d1 d hd).mod m13 (fun y hy hy' => by simp at hy'; subst hy'; exact (d1 d hd).ne bb (by decide) hy)
    cases hid : L[c].1 with
    | false =>
      obtain ⟨rfl, rfl⟩ := hff hid
      rw [apids.1, if_pos (by decide)]
      refine New.use fun w4 b4 m4 z4 => ?_
      have m34 : Mod [] w3 w4 := (Mod.drew w3).none m4
      obtain ⟨oa', oc', w5, run, o5, m5, f5⟩ := append_own (m := 1) (d := 1) Try.underlying28 elem29 28 (o1'.mod m34 (by simp)) (Rd.blk b4) rfl (by simp [one]) (by omega) (by omega)
      have o14 := o1'.mod m34 (by simp)
      have no5 : ∀ {a : Option Addr} {n c : Nat} {vs : List Value}, Own w4 5 1 a n c vs → Own w5 5 1 a n c vs := fun q => q.mod m5 (own_apart' o14 q (by decide))
      refine ⟨_, _, _, w5, run, L.length - (c + 1), by omega, c + 1, oa', oc', outs ++ [⟨some p, E, k⟩], rfl, by rw [List.length_append]; rfl, ?_, ?_, fun e he => ?_, ?_, by omega, by omega, ?_, by rw [List.length_append]; simp; omega, fun y hy => ?_⟩
      · exact (((M1.same m13).none m34).trans m5 (fun y hy => .inr (f1 y hy)))
      · rw [List.length_append, List.map_append]; exact o5
      · rcases List.mem_append.1 he with he | he
        · exact no5 ((d1' e he).mod m34 (by simp))
        · have e' := List.mem_singleton.1 he
          subst e'
          exact no5 (o3.mod m34 (by simp))
      · rw [List.map_append, eo, List.take_succ_eq_append_getElem hcL, List.filter_append, List.map_append]
        congr 1
        simp [hid, hE]
      · exact (h3.none m34).own o14 (by decide) (by decide) m5
      · have := m13.size
        have := m34.size
        rcases f5 with hh | hh <;> rw [hh] at hy
        · exact f1 y hy
        · simp at hy; omega
    | true =>
      obtain ⟨rfl, rfl⟩ := ht hid
      rw [apids.2, if_neg (by decide)]
      refine ⟨L.length - (c + 1), by omega, c + 1, oa, oc, outs, rfl, rfl, (M1.same m13).none (Mod.drew w3), o1'.drew, fun d hd => (d1' d hd).drew, ?_, by omega, by omega, h3.none (Mod.drew w3), by omega, f1⟩
      rw [eo, List.take_succ_eq_append_getElem hcL, List.filter_append, List.map_append]
      simp [hid]
  · refine stop (fun h => ?_) _ (Mod.refl w1)
    obtain ⟨i, d, hi, hd1, hd2, hpk⟩ := hL _ (List.getElem_mem h)
    rw [hpk, pk_len]
    omega
end Go.Proofs.Ytnaomgfdcadncaa
