/-
  Telecommand frames: the reference's Decode.
-/
import Derived.Test.YtdbckjadafpenaaTcDec
namespace Go.Proofs.Ytdbckjadafpenaa
open Go Go.Sh Go.Proofs
set_option linter.unusedVariables false
set_option linter.unusedSimpArgs false

theorem val5 {l : List UInt8} (hl : 5 ≤ l.length) : val (l.take 5) = (((l[0].toNat * 256 + l[1].toNat) * 256 + l[2].toNat) * 256 + l[3].toNat) * 256 + l[4].toNat := by
  match l, hl with
  | b0 :: b1 :: b2 :: b3 :: b4 :: r, _ => simp [val]

theorem tf_ref (l : List UInt8) (h : 8 ≤ l.length) (x : Option Addr) (k : Nat) : (tfOf l).cells x k =
    [.bool (decide ((Int.tmod (shr .i64 (IntKind.i64.wrap ((IntKind.i64.wrap ((IntKind.i64.wrap (l[0].toNat : Int)) * 256)) + (IntKind.i64.wrap (l[1].toNat : Int)))) 13) 2) = 1)), .bool (decide ((Int.tmod (shr .i64 (IntKind.i64.wrap ((IntKind.i64.wrap ((IntKind.i64.wrap (l[0].toNat : Int)) * 256)) + (IntKind.i64.wrap (l[1].toNat : Int)))) 12) 2) = 1)),
     .int .i64 (Int.tmod (IntKind.i64.wrap ((IntKind.i64.wrap ((IntKind.i64.wrap (l[0].toNat : Int)) * 256)) + (IntKind.i64.wrap (l[1].toNat : Int)))) 1024), .int .i64 (IntKind.i64.wrap (Int.tdiv (IntKind.i64.wrap ((IntKind.i64.wrap ((IntKind.i64.wrap (l[2].toNat : Int)) * 256)) + (IntKind.i64.wrap (l[3].toNat : Int)))) 1024)), .int .i64 (IntKind.i64.wrap (l[4].toNat : Int)), .slice x (tfOf l).d.length k] := by
  unfold tfOf
  rw [val5 (by omega)]
  have n0 := l[0].toNat_lt
  have n1 := l[1].toNat_lt
  have n2 := l[2].toNat_lt
  have n3 := l[3].toNat_lt
  have n4 := l[4].toNat_lt
  generalize l[0].toNat = b0 at *
  generalize l[1].toNat = b1 at *
  generalize l[2].toNat = b2 at *
  generalize l[3].toNat = b3 at *
  generalize l[4].toNat = b4 at *
  rw [wi64 (n := (b0 : Int)) (by omega), wi64 (n := (b1 : Int)) (by omega), wi64 (n := (b2 : Int)) (by omega), wi64 (n := (b3 : Int)) (by omega), wi64 (n := (b4 : Int)) (by omega)]
  rw [wi64 (n := (b0 : Int) * 256) (by omega), wi64 (n := (b2 : Int) * 256) (by omega), wi64 (n := (b0 : Int) * 256 + _) (by omega), wi64 (n := (b2 : Int) * 256 + _) (by omega)]
  rw [show (b0 : Int) * 256 + (b1 : Int) = ((b0 * 256 + b1 : Nat) : Int) by omega, show (b2 : Int) * 256 + (b3 : Int) = ((b2 * 256 + b3 : Nat) : Int) by omega]
  have s1 := shrN .i64 (b0 * 256 + b1) 13 (by decide)
  have s2 := shrN .i64 (b0 * 256 + b1) 12 (by decide)
  rw [Nat.shiftRight_eq_div_pow] at s1 s2
  rw [show ((13 : Nat) : Int) = 13 from rfl] at s1
  rw [show ((12 : Nat) : Int) = 12 from rfl] at s2
  rw [s1, s2]
  have md : ∀ (n k : Nat), Int.tmod (n : Int) (k : Int) = ((n % k : Nat) : Int) := fun n k => by rw [Int.tmod_eq_emod_of_nonneg (by omega)]; rfl
  have k1 := md ((b0 * 256 + b1) / 2 ^ 13) 2
  have k2 := md ((b0 * 256 + b1) / 2 ^ 12) 2
  have k3 := md (b0 * 256 + b1) 1024
  simp only [Int.cast_ofNat_Int] at k1 k2 k3
  rw [k1, k2, k3]
  have d1 : Int.tdiv ((b2 * 256 + b3 : Nat) : Int) 1024 = (((b2 * 256 + b3) / 1024 : Nat) : Int) := by rw [Int.tdiv_eq_ediv_of_nonneg (by omega)]; rfl
  rw [d1, wi64 (n := (((b2 * 256 + b3) / 1024 : Nat) : Int)) (by omega)]
  have f1 : ∀ x y : Nat, x % 2 = y % 2 ^ 1 → decide (y % 2 ^ 1 = 1) = decide ((x % 2 : Nat) = (1 : Int)) := fun x y h => by congr 1; rw [eq_iff_iff]; omega
  unfold Tf.cells
  refine congr (congrArg _ ?_) (congr (congrArg _ ?_) (congr (congrArg _ ?_) (congr (congrArg _ ?_) (congr (congrArg _ ?_) rfl))))
  · refine congrArg Value.bool (f1 _ _ ?_); omega
  · refine congrArg Value.bool (f1 _ _ ?_); omega
  · refine congrArg (Value.int .i64) ?_; show ((_ : Nat) : Int) = ((_ : Nat) : Int); refine congrArg Nat.cast ?_; omega
  · refine congrArg (Value.int .i64) ?_; show ((_ : Nat) : Int) = ((_ : Nat) : Int); refine congrArg Nat.cast ?_; omega
  · refine congrArg (Value.int .i64) ?_; show ((_ : Nat) : Int) = ((_ : Nat) : Int); refine congrArg Nat.cast ?_; omega

theorem tcRef_end {w w1 : World} {a : Option Addr} {l : List UInt8} {c q k : Nat} {x : Option Addr} {vs : List Value} (h8 : 8 ≤ l.length) (h24 : l.length ≤ 1024) (hck : chk16 l = true) (hr : Rd w a (l.map bv)) (m : Mod [] w w1) (hB : Blk w1 w.heap.size 24 vs) (hvs : vs.length = 6)
    (hq : Blk w1 q 24 ((tfOf l).cells x k)) (ho : Own w1 5 1 x (tfOf l).d.length k ((tfOf l).d.map bv)) (sx : ∀ y ∈ fp x, w.heap.size < y) : F16_j1 (base w.heap.size) a l.length c (some (base q)) w1 (DecQ w l) := by
  have hdec : tcDec l = if tfOk l then (tfOf l, 0) else (Tf.zero, 4) := by unfold tcDec; rw [if_neg (by omega), if_neg (by omega), if_neg (by simp [hck])]
  have sx' : Since w (fp x) := fun y hy => Nat.le_of_lt (sx y hy)
  unfold F16_j1
  refine ⟨_, rfl, _, _, _, _, _, _, _, _, hq.cells, ?_⟩
  refine (tcRefEncode_ok (tfOf l) x k ho.rd).mono ?_
  rintro _ w2 ⟨y, n, rfl, o2, m2, s2⟩
  have M2 := m.none m2
  refine ⟨_, _, _, _, rfl, ?_⟩
  unfold Tf.out Tf.err at *
  have j2 : ∀ b : Bool, b = !tfOk l → F16_j2 (base w.heap.size) (base q) b w2 (DecQ w l) := by
    intro b hb
    unfold F16_j2
    subst hb
    cases hk : tfOk l with
    | true =>
      rw [if_neg (by simp)]
      refine ⟨_, _, _, _, _, _, _, _, (hq.mod m2 (by simp)).cells, ret8 (tfOf l) x k (hB.mod m2 (by simp)) hvs fun w'' m'' => ?_⟩
      unfold DecQ
      rw [hdec, if_pos hk]
      refine ⟨x, k, rfl, (ho.mod m2 (by simp)).mod m'' (fun y hy hy' => ?_), M2.trans m'' (fun y hy => .inr (by simp at hy; omega)), sx'⟩
      simp at hy'
      have := sx y hy
      omega
    | false =>
      rw [if_pos (by simp)]
      exact ret8 Tf.zero none 0 (hB.mod m2 (by simp)) hvs fun w'' m'' => DecQ.bad (by rw [hdec, if_neg (by simp [hk])]) (M2.trans m'' (fun y hy => .inr (by simp at hy; omega)))
  by_cases hok : (tfOf l).ok = true
  · rw [if_pos hok] at o2 ⊢
    rw [if_pos hok, if_neg (by simp)]
    refine ⟨_, toStr_ok n o2.rd, _, toStr_ok c (hr.mod M2 (by simp)), j2 _ ?_⟩
    rw [strEq]
    unfold tfOk
    rw [hok]
    rfl
  · rw [if_neg hok] at o2 ⊢
    rw [if_neg hok, if_pos (by simp)]
    exact j2 _ (by unfold tfOk; simp [hok])

theorem tcRefDecode_ok {w : World} {a : Option Addr} {l : List UInt8} {c : Nat} (hc : l.length ≤ c) (hr : Rd w a (l.map bv)) : Does Try.prog 16 #[.slice a l.length c] w (DecQ w l) := by
  apply w16
  unfold F16
  refine New.use fun w1 hB m1 z1 => ?_
  have m1' : ∀ {w' : World}, Mod [w.heap.size] w1 w' → Mod [] w w' := fun h => m1.trans h (fun x hx => .inr (by simp at hx; omega))
  by_cases h8 : l.length < 8
  · rw [if_pos (by omega)]
    exact ret8 Tf.zero none 0 hB rfl fun w' m' => DecQ.bad (by unfold tcDec; rw [if_pos h8]) (m1' m')
  rw [if_neg (by omega)]
  by_cases h24 : 1024 < l.length
  · rw [if_pos (by omega)]
    exact ret8 Tf.zero none 0 hB rfl fun w' m' => DecQ.bad (by unfold tcDec; rw [if_neg h8, if_pos h24]) (m1' m')
  rw [if_neg (by omega)]
  refine (refCheck16_ok a l c w1 (by omega) hc (hr.mod m1 (by simp))).mono ?_
  rintro _ w2 ⟨rfl, m2⟩
  refine ⟨_, rfl, ?_⟩
  have hB2 := hB.mod m2 (by simp)
  have M2 := m1.none m2
  have z2 : w.heap.size < w2.heap.size := hB2.lt
  by_cases hck : chk16 l = false
  · rw [if_pos (by simpa using hck)]
    exact ret8 Tf.zero none 0 hB2 rfl fun w' m' => DecQ.bad (by unfold tcDec; rw [if_neg h8, if_neg h24, if_pos hck]) (M2.trans m' (fun x hx => .inr (by simp at hx; omega)))
  have hck' : chk16 l = true := by simpa using hck
  rw [if_neg (by simp [hck'])]
  have hr2 := hr.mod M2 (by simp)
  obtain ⟨p, rfl, c0⟩ := rd_get hr2 (i := 0) (by omega)
  obtain ⟨p', hp, c1⟩ := rd_get hr2 (i := 1) (by omega)
  cases hp
  obtain ⟨p', hp, c2⟩ := rd_get hr2 (i := 2) (by omega)
  cases hp
  obtain ⟨p', hp, c3⟩ := rd_get hr2 (i := 3) (by omega)
  cases hp
  obtain ⟨p', hp, c4⟩ := rd_get hr2 (i := 4) (by omega)
  cases hp
  have e2 : IntKind.i64.wrap ((l.length : Int) - 2) = ((l.length - 2 : Nat) : Int) := by rw [wi64 (by omega)]; omega
  rw [e2]
  refine ⟨p, rfl, by omega, by omega, _, c0, by omega, by omega, _, c1, by omega, by omega, _, c2, by omega, by omega, _, c3, by omega, by omega, _, c4, by omega, by omega, by omega, ?_⟩
  have hd3 : Mod [] w2 w2.drew.drew.drew := ((Mod.drew w2).none (Mod.drew _)).none (Mod.drew _)
  have hB3 := hB2.mod hd3 (by simp)
  have M3 := M2.none hd3
  have z3 : w2.drew.drew.drew.heap.size = w2.heap.size := rfl
  generalize w2.drew.drew.drew = w3 at *
  have hr3 := hr2.mod hd3 (by simp)
  have c4' := hd3.cell (S := []) c4 (by simp)
  have fl := tfOf_len (show 7 ≤ l.length by omega)
  have hlen : ((l.length - 2 : Nat) : Int).toNat - (5 : Int).toNat = (tfOf l).d.length := by
    rw [fl]
    show (l.length - 2) - 5 = _
    omega
  have hcut : ∀ {w' : World}, Mod [] w3 w' → Rd w' (cutA (some p) c ((5 : Int).toNat) 1) ((tfOf l).d.map bv) := fun h => by
    have := ((hr3.mod h (by simp)).cut (c := c) (l := 5) (z := 1) (by simp; omega)).take (l.length - 7)
    rwa [Nat.mul_one, ← List.map_drop, ← List.map_take] at this
  rw [hlen]
  have app : ∀ {w' : World} {g : Nat}, Mod [] w3 w' → Blk w' g 5 [] → ∃ a' c' w'', (Builtin.append_ #[22, 22] 22 #[.slice (some (base g)) 0 0, .slice (cutA (some p) c ((5 : Int).toNat) 1) (tfOf l).d.length (c - (5 : Int).toNat)]).run Try.prog w' = .ok (.slice a' (tfOf l).d.length c') w'' ∧ Own w'' 5 1 a' (tfOf l).d.length c' ((tfOf l).d.map bv) ∧ Mod [g] w' w'' ∧ (fp a' = [g] ∨ fp a' = [w'.heap.size]) := fun h hb => by
    obtain ⟨a', c', w'', h1, h2, h3, h4⟩ := append_own (d := c - (5 : Int).toNat) Try.underlying22 elem5 22 (Own.blk (n := 0) hb rfl (by decide)) (hcut h) (m := (tfOf l).d.length) (by simp) (bv_one _) (by omega) (by omega)
    rw [Nat.zero_add] at h1 h2
    exact ⟨a', c', w'', h1, h2, h3, h4⟩
  have far : ∀ {w' w'' : World} {g : Nat}, Mod [g] w' w'' → w3.heap.size ≤ g → Mod [] w3 w' → Mod [] w3 w'' := fun h hg h' => h'.trans h (fun x hx => .inr (by simp at hx; omega))
  refine ⟨?_, ?_⟩
  · refine New.use fun w4 h4 m4 z4 => ?_
    refine ⟨m4.cell (S := []) c4' (by simp), ?_, ?_⟩
    · obtain ⟨a', c', w5, run5, o5, m5, f5⟩ := app m4 h4
      have N5 := far m5 (Nat.le_refl _) m4
      refine ⟨_, _, _, w5, run5, N5.cell (S := []) c4' (by simp), ?_⟩
      refine New.use fun w6 h6 m6 z6 => ?_
      refine ⟨m6.cell (S := []) (N5.cell (S := []) c4' (by simp)) (by simp), ?_⟩
      refine PutAll.use h6 rfl fun w7 h7 m7 => ?_
      have z5 := N5.size
      rw [← tf_ref l (by omega)] at h7
      have N7 := far m7 (by omega) (N5.none m6)
      refine tcRef_end (by omega) (by omega) hck' hr (M3.none N7) (hB3.mod N7 (by simp)) rfl h7 ((o5.mod m6 (by simp)).mod m7 (fun y hy hy' => by simp at hy'; subst hy'; have := o5.lt _ hy; omega)) ?_
      intro y hy
      rcases f5 with f | f <;> rw [f] at hy <;> simp at hy <;> omega
    · refine New.use fun w5 h5 m5 z5 => ?_
      have N5 := m4.none m5
      refine ⟨N5.cell (S := []) c4' (by simp), ?_⟩
      obtain ⟨a', c', w6, run6, o6, m6, f6⟩ := app N5 (h4.mod m5 (by simp))
      have N6 := far m6 (Nat.le_refl _) N5
      refine ⟨_, _, _, w6, run6, N6.cell (S := []) c4' (by simp), ?_⟩
      have h6 := h5.mod m6 (by simp; omega)
      refine PutAll.use h6 rfl fun w7 h7 m7 => ?_
      rw [← tf_ref l (by omega)] at h7
      have N7 := far m7 (by omega) N6
      refine tcRef_end (by omega) (by omega) hck' hr (M3.none N7) (hB3.mod N7 (by simp)) rfl h7 (o6.mod m7 (fun y hy hy' => by simp at hy'; subst hy'; rcases f6 with f | f <;> rw [f] at hy <;> simp at hy <;> omega)) ?_
      intro y hy
      rcases f6 with f | f <;> rw [f] at hy <;> simp at hy <;> omega
  · refine New.use fun w4 h4 m4 z4 => ?_
    refine ⟨m4.cell (S := []) c4' (by simp), ?_⟩
    refine New.use fun w5 h5 m5 z5 => ?_
    have N5 := m4.none m5
    refine ⟨N5.cell (S := []) c4' (by simp), ?_⟩
    obtain ⟨a', c', w6, run6, o6, m6, f6⟩ := app N5 h5
    have N6 := far m6 (by omega) N5
    refine ⟨_, _, _, w6, run6, N6.cell (S := []) c4' (by simp), ?_⟩
    have h6 := (h4.mod m5 (by simp)).mod m6 (by simp; omega)
    refine PutAll.use h6 rfl fun w7 h7 m7 => ?_
    rw [← tf_ref l (by omega)] at h7
    have N7 := far m7 (by omega) N6
    refine tcRef_end (by omega) (by omega) hck' hr (M3.none N7) (hB3.mod N7 (by simp)) rfl h7 (o6.mod m7 (fun y hy hy' => by simp at hy'; subst hy'; rcases f6 with f | f <;> rw [f] at hy <;> simp at hy <;> omega)) ?_
    intro y hy
    rcases f6 with f | f <;> rw [f] at hy <;> simp at hy <;> omega
end Go.Proofs.Ytdbckjadafpenaa
