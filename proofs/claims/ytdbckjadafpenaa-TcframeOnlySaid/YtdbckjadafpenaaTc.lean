/-
  Telecommand frames: Valid, Encode, of the program and of the reference.
-/
import Derived.Test.YtdbckjadafpenaaBitsVal
import Derived.Test.YtdbckjadafpenaaBitsChain
import Derived.Test.YtdbckjadafpenaaCrcW3
namespace Go.Proofs.Ytdbckjadafpenaa
open Go Go.Sh Go.Proofs
set_option linter.unusedVariables false
set_option linter.unusedSimpArgs false

structure Tf where
  bp : Bool
  ct : Bool
  cr : Int
  ch : Int
  sq : Int
  d : List UInt8
deriving DecidableEq
abbrev Tf.cells (f : Tf) (a : Option Addr) (c : Nat) : List Value := [.bool f.bp, .bool f.ct, .int .i64 f.cr, .int .i64 f.ch, .int .i64 f.sq, .slice a f.d.length c]
abbrev Tf.val (f : Tf) (a : Option Addr) (c : Nat) : Value := .agg #[.bool f.bp, .bool f.ct, .int .i64 f.cr, .int .i64 f.ch, .int .i64 f.sq, .slice a f.d.length c]
def Tf.ok (f : Tf) : Bool := decide (0 ≤ f.cr ∧ f.cr ≤ 1023 ∧ 0 ≤ f.ch ∧ f.ch ≤ 7 ∧ 0 ≤ f.sq ∧ f.sq ≤ 255 ∧ 1 ≤ f.d.length ∧ f.d.length ≤ 1017 ∧ (f.bp = true ∨ f.ct = false))
def Tf.hd (f : Tf) : Nat := f.bp.toNat * 2 ^ 37 + f.ct.toNat * 2 ^ 36 + f.cr.toNat * 2 ^ 24 + f.ch.toNat * 2 ^ 18 + (f.d.length + 6) * 2 ^ 8 + f.sq.toNat
def Tf.enc (f : Tf) : List UInt8 := app16 (be f.hd 5 ++ f.d)
def Tf.out (f : Tf) : List UInt8 := if f.ok then f.enc else []
def Tf.err (f : Tf) : Int := if f.ok then 0 else 1
def Tf.zero : Tf := ⟨false, false, 0, 0, 0, []⟩
theorem bv_ofNat (m : Nat) : bv (UInt8.ofNat m) = .int .u8 ((m % 256 : Nat) : Int) := by simp [bv]
theorem wrapN (n : Int) (h0 : 0 ≤ n) (h1 : n < 18446744073709551616) : IntKind.u64.wrap n = ((n.toNat : Nat) : Int) := by rw [wu64]; omega
theorem toNat_le1 (b : Bool) : b.toNat ≤ 1 := by cases b <;> simp

section
variable (f : Tf) (a : Option Addr) (c : Nat)
theorem tcFlag_ok (b : Bool) (w : World) : Does Try.prog 36 #[.bool b] w fun v w' => v = .int .u64 (b.toNat : Int) ∧ w = w' := by
  apply w36
  unfold F36
  cases b <;> simp
theorem tcValid_ok (w : World) : Does Try.prog 13 #[f.val a c] w fun v w' => v = .bool f.ok ∧ Mod [] w w' := by
  apply w13
  unfold F13 F13_j3 F13_j1 F13_j2
  refine New.use fun w1 hB m _ => ?_
  unfold Tf.ok
  repeat' first | refine iteI (fun h => ?_) (fun h => ?_) | refine ⟨_, hB.cell rfl, ?_⟩ | refine ⟨_, _, _, hB.cell rfl, ?_⟩ | refine ⟨_, hB.cell0, ?_⟩ | fail
  all_goals refine ⟨congrArg Value.bool ?_, m⟩
  all_goals (clear hB m; obtain ⟨bp, ct, cr, ch, sq, d⟩ := f; rw [Bool.eq_iff_iff]; cases bp <;> cases ct <;> simp_all <;> omega)
theorem tcRefValid_ok (w : World) : Does Try.prog 14 #[f.val a c] w fun v w' => v = .bool f.ok ∧ Mod [] w w' := by
  apply w14
  unfold F14
  refine New.use fun w1 hB m _ => ?_
  unfold Tf.ok
  repeat' first | refine iteI (fun h => ?_) (fun h => ?_) | refine ⟨_, hB.cell rfl, ?_⟩ | refine ⟨_, _, _, hB.cell rfl, ?_⟩ | refine ⟨_, hB.cell0, ?_⟩ | fail
  all_goals refine ⟨congrArg Value.bool ?_, m⟩
  all_goals (clear hB m; obtain ⟨bp, ct, cr, ch, sq, d⟩ := f; rw [Bool.eq_iff_iff]; cases bp <;> cases ct <;> simp_all <;> omega)

theorem tc_pack (h : f.ok = true) : pack ([] ++ field 0 2 ++ field f.bp.toNat 1 ++ field f.ct.toNat 1 ++ field 0 2 ++ field f.cr.toNat 10 ++ field f.ch.toNat 6 ++ field (f.d.length + 6) 10 ++ field f.sq.toNat 8) = be f.hd 5 := by
  simp only [Tf.ok, decide_eq_true_eq] at h
  have h1 := toNat_le1 f.bp
  have h2 := toNat_le1 f.ct
  rw [List.nil_append, field_cat _ _ _ _ (by omega), field_cat _ _ _ _ (by omega), field_cat _ _ _ _ (by omega), field_cat _ _ _ _ (by omega), field_cat _ _ _ _ (by omega), field_cat _ _ _ _ (by omega), field_cat _ _ _ _ (by omega)]
  rw [show 2 + 1 + 1 + 2 + 10 + 6 + 10 + 8 = 8 * 5 from rfl, pack_field]
  refine congrArg (fun n => be n 5) ?_
  unfold Tf.hd
  omega

theorem tcHeader_ok (w : World) (hok : f.ok = true) : Does Try.prog 25 #[f.val a c] w fun v w' => ∃ x k, v = .slice x 5 k ∧ Own w' 5 1 x 5 k ((be f.hd 5).map bv) ∧ Mod [] w w' ∧ Since w (fp x) := by
  apply w25
  unfold F25
  refine New.use fun w1 hB m1 _ => ?_
  have hr := hok
  simp only [Tf.ok, decide_eq_true_eq] at hr
  have b1 := toNat_le1 f.bp
  have b2 := toNat_le1 f.ct
  have md : Mod [] w1 w1.drew := Mod.drew w1
  refine ⟨_, hB.drew.cell0, _, hB.drew.cell (i := 1) rfl, ?_⟩
  refine (Wn.new w1.drew).mono ?_
  rintro _ w3 ⟨rfl, h3⟩
  have at_ : ∀ {w' : World} {L : List Bool}, Wn w1.drew w' w1.drew.heap.size L → Blk w' w.heap.size 24 (f.cells a c) := fun h => hB.drew.mod h.m (by simp)
  refine ⟨_, rfl, (at_ h3).cell0, (at_ h3).cell (i := 1) rfl, ?_⟩
  refine (h3.putAt 0 2 rfl (by omega) (by omega) (by simp)).mono ?_
  rintro _ w4 ⟨rfl, h4⟩
  refine ⟨_, rfl, (at_ h4).cell0, (at_ h4).cell (i := 1) rfl, ?_⟩
  refine (tcFlag_ok f.bp _).mono ?_
  rintro _ _ ⟨rfl, rfl⟩
  refine ⟨_, rfl, (at_ h4).cell (i := 1) rfl, ?_⟩
  refine (h4.putAt f.bp.toNat 1 rfl (by omega) (by omega) (by simp [field_len])).mono ?_
  rintro _ w5 ⟨rfl, h5⟩
  refine ⟨_, rfl, (at_ h5).cell (i := 1) rfl, ?_⟩
  refine (tcFlag_ok f.ct _).mono ?_
  rintro _ _ ⟨rfl, rfl⟩
  refine ⟨_, rfl, ?_⟩
  refine (h5.putAt f.ct.toNat 1 rfl (by omega) (by omega) (by simp [field_len])).mono ?_
  rintro _ w6 ⟨rfl, h6⟩
  refine ⟨_, rfl, ?_⟩
  refine (h6.putAt 0 2 rfl (by omega) (by omega) (by simp [field_len])).mono ?_
  rintro _ w7 ⟨rfl, h7⟩
  have h7 := h7.drew
  refine ⟨_, rfl, _, (at_ h7).cell (i := 2) rfl, _, (at_ h7).cell (i := 3) rfl, _, _, _, (at_ h7).cell (i := 5) rfl, _, (at_ h7).cell (i := 4) rfl, ?_⟩
  refine (h7.putAt f.cr.toNat 10 (wrapN _ (by omega) (by omega)) (by omega) (by omega) (by simp [field_len])).mono ?_
  rintro _ w8 ⟨rfl, h8⟩
  refine ⟨_, rfl, (at_ h8).cell (i := 3) rfl, (at_ h8).cell (i := 5) rfl, (at_ h8).cell (i := 4) rfl, ?_⟩
  refine (h8.putAt f.ch.toNat 6 (wrapN _ (by omega) (by omega)) (by omega) (by omega) (by simp [field_len])).mono ?_
  rintro _ w9 ⟨rfl, h9⟩
  refine ⟨_, rfl, (at_ h9).cell (i := 5) rfl, (at_ h9).cell (i := 4) rfl, ?_⟩
  have el : IntKind.u64.wrap (IntKind.i64.wrap (IntKind.i64.wrap ((f.d.length : Int) + 7) - 1)) = ((f.d.length + 6 : Nat) : Int) := by
    rw [wi64 (n := (f.d.length : Int) + 7) (by omega), wi64 (by omega), wrapN _ (by omega) (by omega)]; omega
  refine (h9.putAt (f.d.length + 6) 10 el (by omega) (by omega) (by simp [field_len])).mono ?_
  rintro _ w10 ⟨rfl, h10⟩
  refine ⟨_, rfl, (at_ h10).cell (i := 4) rfl, ?_⟩
  refine (h10.putAt f.sq.toNat 8 (wrapN _ (by omega) (by omega)) (by omega) (by omega) (by simp [field_len])).mono ?_
  rintro _ w11 ⟨rfl, h11⟩
  refine ⟨_, rfl, ?_⟩
  refine (h11.bytes (by simp [field_len])).mono ?_
  rintro _ w12 ⟨x, k, rfl, ho, m, s⟩
  have e := tc_pack f hok
  rw [e] at ho ⊢
  rw [be_len] at ho ⊢
  have := m1.size
  rw [show w1.drew.heap.size = w1.heap.size from rfl] at *
  exact ⟨_, _, _, rfl, x, k, rfl, ho, (m1.none md).none m, fun y hy => by have := s y hy; rw [size_drew] at this; omega⟩

theorem tc_append {w : World} {x y : Option Addr} {k : Nat} (hok : f.ok = true) (ho : Own w 5 1 x 5 k ((be f.hd 5).map bv)) (hr : Rd w y (f.d.map bv)) :
    ∃ a' c' w', (Builtin.append_ #[22, 22] 22 #[.slice x 5 k, .slice y f.d.length c]).run Try.prog w = .ok (.slice a' (be f.hd 5 ++ f.d).length c') w' ∧ Own w' 5 1 a' (be f.hd 5 ++ f.d).length c' ((be f.hd 5 ++ f.d).map bv) ∧ Mod (fp x) w w' := by
  simp only [Tf.ok, decide_eq_true_eq] at hok
  obtain ⟨a', c', w', h1, h2, h3, _⟩ := append_own (d := c) Try.underlying22 elem5 22 ho hr (m := f.d.length) (by simp) (bv_one _) (by omega) (by omega)
  rw [← List.map_append] at h2
  have e : (be f.hd 5 ++ f.d).length = 5 + f.d.length := by simp [be_len]
  rw [e]
  exact ⟨a', c', w', h1, h2, h3⟩

theorem tcEncode_ok {w : World} (hr : Rd w a (f.d.map bv)) : Does Try.prog 9 #[f.val a c] w fun v w' => ∃ x k, v = .tuple #[.slice x f.out.length k, .int .i64 f.err] ∧ Own w' 5 1 x f.out.length k (f.out.map bv) ∧ Mod [] w w' ∧ Since w (fp x) := by
  apply w9
  unfold F9
  refine New.use fun w1 hB m1 _ => ?_
  refine ⟨_, _, _, _, _, _, _, _, hB.cells, ?_⟩
  refine (tcValid_ok f a c w1).mono ?_
  rintro _ w2 ⟨rfl, m2⟩
  refine ⟨_, rfl, ?_⟩
  have M2 := m1.none m2
  unfold Tf.out Tf.err
  by_cases hok : f.ok = false
  · rw [if_pos (by simpa using hok), if_neg (by simp [hok]), if_neg (by simp [hok])]
    exact ⟨none, 0, rfl, Own.nil, M2, by simp [Since, fp]⟩
  have hok : f.ok = true := by simpa using hok
  rw [if_neg (by simp [hok]), if_pos hok, if_pos hok]
  have hb2 := (hB.mod m2 (by simp)).drew
  have M2 := M2.none (Mod.drew (S := []) w2)
  refine ⟨_, _, _, _, _, _, _, _, hb2.cells, _, _, _, hb2.cell (i := 5) rfl, ?_⟩
  refine (tcHeader_ok f a c _ hok).mono ?_
  rintro _ w3 ⟨x, k, rfl, o3, m3, s3⟩
  refine ⟨_, _, _, rfl, (hb2.mod m3 (by simp)).cell (i := 5) rfl, ?_⟩
  obtain ⟨x4, k4, w4, run4, o4, m4⟩ := tc_append f c hok o3 (hr.mod (M2.none m3) (by simp))
  refine ⟨_, _, _, _, run4, ?_⟩
  have hl : (be f.hd 5 ++ f.d).length ≤ 1000000 := by simp only [Tf.ok, decide_eq_true_eq] at hok; simp [be_len]; omega
  refine (append16_ok x4 (be f.hd 5 ++ f.d) k4 w4 hl o4.rd).mono ?_
  rintro _ w5 ⟨x5, k5, rfl, o5, m5, s5⟩
  have e : (be f.hd 5 ++ f.d).length + 2 = f.enc.length := by simp [Tf.enc, app16]; omega
  rw [e] at o5 ⊢
  have z2 := M2.size
  have z3 := m3.size
  have z4 := m4.size
  refine ⟨_, _, _, rfl, x5, k5, rfl, o5, ((M2.none m3).trans m4 (fun y hy => .inr (by have := s3 y hy; omega))).none m5, fun y hy => by have := s5 y hy; omega⟩

theorem tc_bytes (h : f.ok = true) : (be f.hd 5).map bv = [.int .u8 (IntKind.u8.wrap (IntKind.i64.wrap (Int.tdiv (f.cr + 8192 * f.bp.toNat + 4096 * f.ct.toNat) 256))), .int .u8 (IntKind.u8.wrap (Int.tmod (f.cr + 8192 * f.bp.toNat + 4096 * f.ct.toNat) 256)), .int .u8 (IntKind.u8.wrap (IntKind.i64.wrap (Int.tdiv (IntKind.i64.wrap ((IntKind.i64.wrap ((IntKind.i64.wrap (f.ch * 1024)) + (f.d.length : Int))) + 6)) 256))), .int .u8 (IntKind.u8.wrap (Int.tmod (IntKind.i64.wrap ((IntKind.i64.wrap ((IntKind.i64.wrap (f.ch * 1024)) + (f.d.length : Int))) + 6)) 256)), .int .u8 (IntKind.u8.wrap f.sq)] := by
  simp only [Tf.ok, decide_eq_true_eq] at h
  have h1 := toNat_le1 f.bp
  have h2 := toNat_le1 f.ct
  generalize hN : f.hd = N
  unfold Tf.hd at hN
  generalize f.bp.toNat = x at *
  generalize f.ct.toNat = y at *
  generalize f.d.length = n at *
  rw [wi64 (n := f.ch * 1024) (by omega), wi64 (n := f.ch * 1024 + _) (by omega), wi64 (n := f.ch * 1024 + (n : Int) + _) (by omega)]
  rw [Int.tdiv_eq_ediv_of_nonneg (by omega), Int.tdiv_eq_ediv_of_nonneg (by omega), Int.tmod_eq_emod_of_nonneg (by omega), Int.tmod_eq_emod_of_nonneg (by omega)]
  rw [wi64 (n := (f.cr + 8192 * (x : Int) + 4096 * (y : Int)) / 256) (by omega), wi64 (by omega)]
  simp only [be, List.nil_append, List.cons_append, List.map_cons, List.map_nil, bv_ofNat, wu8]
  refine congr (congrArg _ ?_) (congr (congrArg _ ?_) (congr (congrArg _ ?_) (congr (congrArg _ ?_) (congr (congrArg _ ?_) rfl)))) <;> · congr 1; omega

theorem tcRefEncode_ok {w : World} (hr : Rd w a (f.d.map bv)) : Does Try.prog 10 #[f.val a c] w fun v w' => ∃ x k, v = .tuple #[.slice x f.out.length k, .int .i64 f.err] ∧ Own w' 5 1 x f.out.length k (f.out.map bv) ∧ Mod [] w w' ∧ Since w (fp x) := by
  apply w10
  unfold F10
  refine New.use fun w1 hB m1 _ => ?_
  refine ⟨_, _, _, _, _, _, _, _, hB.cells, ?_⟩
  refine (tcRefValid_ok f a c w1).mono ?_
  rintro _ w2 ⟨rfl, m2⟩
  refine ⟨_, rfl, ?_⟩
  have M2 := m1.none m2
  unfold Tf.out Tf.err
  by_cases hok : f.ok = false
  · rw [if_pos (by simpa using hok), if_neg (by simp [hok]), if_neg (by simp [hok])]
    exact ⟨none, 0, rfl, Own.nil, M2, by simp [Since, fp]⟩
  have hok : f.ok = true := by simpa using hok
  rw [if_neg (by simp [hok]), if_pos hok, if_pos hok]
  have hb2 := hB.mod m2 (by simp)
  have hrr := hok
  simp only [Tf.ok, decide_eq_true_eq] at hrr
  have j2 : F10_j2 (base w.heap.size) (f.cr + 8192 * f.bp.toNat + 4096 * f.ct.toNat) w2 (fun v w' => ∃ x k, v = .tuple #[.slice x f.enc.length k, .int .i64 0] ∧ Own w' 5 1 x f.enc.length k (f.enc.map bv) ∧ Mod [] w w' ∧ Since w (fp x)) := by
    unfold F10_j2
    refine ⟨_, hb2.cell (i := 3) rfl, _, _, _, hb2.cell (i := 5) rfl, _, hb2.cell (i := 4) rfl, ?_⟩
    refine New.use fun w3 h3 m3 _ => ?_
    rw [← tc_bytes f hok] at h3
    have o3 : Own w3 5 1 (some (base w2.heap.size)) 5 5 ((be f.hd 5).map bv) := Own.blk h3 (by simp [be_len]) (by decide)
    refine ⟨_, _, _, (hb2.mod m3 (by simp)).cell (i := 5) rfl, ?_⟩
    obtain ⟨x4, k4, w4, run4, o4, m4⟩ := tc_append f c hok o3 (hr.mod (M2.none m3) (by simp))
    refine ⟨_, _, _, _, run4, ?_⟩
    have hl : (be f.hd 5 ++ f.d).length ≤ 1000000 := by simp [be_len]; omega
    refine (refAppend16_ok x4 (be f.hd 5 ++ f.d) k4 w4 hl o4.rd).mono ?_
    rintro _ w5 ⟨x5, k5, rfl, o5, m5, s5⟩
    have e : (be f.hd 5 ++ f.d).length + 2 = f.enc.length := by simp [Tf.enc, app16]; omega
    rw [e] at o5 ⊢
    have z2 := M2.size
    have z3 := m3.size
    have z4 := m4.size
    refine ⟨_, _, _, rfl, x5, k5, rfl, o5, ((M2.none m3).trans m4 (fun y hy => .inr (by simp [fp, base] at hy; omega))).none m5, fun y hy => by have := s5 y hy; omega⟩
  refine ⟨_, hb2.cell (i := 2) rfl, _, hb2.cell0, ?_⟩
  have j1 : ∀ x : Int, x = f.cr + 8192 * f.bp.toNat → F10_j1 (base w.heap.size) x w2 (fun v w' => ∃ x k, v = .tuple #[.slice x f.enc.length k, .int .i64 0] ∧ Own w' 5 1 x f.enc.length k (f.enc.map bv) ∧ Mod [] w w' ∧ Since w (fp x)) := by
    intro x hx
    have b1 := toNat_le1 f.bp
    unfold F10_j1
    refine ⟨_, hb2.cell (i := 1) rfl, ?_⟩
    cases hc : f.ct with
    | true => rw [if_pos rfl]; rw [hc] at j2; rw [wi64 (by omega), hx]; exact j2
    | false => rw [if_neg (by simp)]; rw [hc] at j2; simpa [hx] using j2
  cases hc : f.bp with
  | true => rw [if_pos rfl, wi64 (by omega)]; exact j1 _ (by rw [hc]; simp)
  | false => rw [if_neg (by simp)]; exact j1 _ (by rw [hc]; simp)
end
end Go.Proofs.Ytdbckjadafpenaa
