/-
  Control words: the contracts of Valid and Encode, of the program and of the reference.
-/
import Derived.Test.YtpioadkiomcdlaaBitsVal
import Derived.Test.YtpioadkiomcdlaaBitsChain
namespace Go.Proofs.Ytpioadkiomcdlaa
open Go Go.Sh Go.Proofs
set_option linter.unusedVariables false
set_option linter.unusedSimpArgs false

structure Cw where
  ch : Int
  lo : Bool
  wa : Bool
  re : Bool
  bp : Int
  nx : Int
deriving DecidableEq
abbrev Cw.cells (c : Cw) : List Value := [.int .i64 c.ch, .bool c.lo, .bool c.wa, .bool c.re, .int .i64 c.bp, .int .i64 c.nx]
abbrev Cw.val (c : Cw) : Value := .agg #[.int .i64 c.ch, .bool c.lo, .bool c.wa, .bool c.re, .int .i64 c.bp, .int .i64 c.nx]
def Cw.ok (c : Cw) : Bool := decide (0 ≤ c.ch ∧ c.ch ≤ 7 ∧ 0 ≤ c.bp ∧ c.bp ≤ 3 ∧ 0 ≤ c.nx ∧ c.nx ≤ 255)
def Cw.n (c : Cw) : Nat := 2 ^ 24 + c.ch.toNat * 2 ^ 18 + c.lo.toNat * 2 ^ 13 + c.wa.toNat * 2 ^ 12 + c.re.toNat * 2 ^ 11 + c.bp.toNat * 2 ^ 9 + c.nx.toNat
def Cw.out (c : Cw) : List UInt8 := if c.ok then be c.n 4 else []
def Cw.err (c : Cw) : Int := if c.ok then 0 else 1
def Cw.zero : Cw := ⟨0, false, false, false, 0, 0⟩
theorem bv_ofNat (m : Nat) : bv (UInt8.ofNat m) = .int .u8 ((m % 256 : Nat) : Int) := by simp [bv]
set_option maxRecDepth 100000 in
theorem cw_eq (c d : Cw) : ∀ w n, (Op.equalIn (n + 5) 24 c.val d.val).run Try.prog w = .ok (decide (c = d)) w := by
  refine eq_struct (bs := [c.ch == d.ch, c.lo == d.lo, c.wa == d.wa, c.re == d.re, c.bp == d.bp, c.nx == d.nx]) (by kernel_rfl) (by kernel_rfl) (by kernel_rfl) _ ?_
  cases c; cases d
  rw [Bool.eq_iff_iff]; simp
theorem elem8 : Elem Try.prog 5 1 1 := Elem.of (v := .int .u8 0) (by kernel_rfl) rfl (by decide)

theorem cwFlag_ok (b : Bool) (w : World) : Does Try.prog 40 #[.bool b] w fun v w' => v = .int .u64 (b.toNat : Int) ∧ w = w' := by
  apply w40
  unfold F40
  cases b <;> simp
theorem refFlag_ok (b : Bool) (n : Int) (w : World) : Does Try.prog 44 #[.bool b, .int .i64 n] w fun v w' => v = .int .i64 (if b then n else 0) ∧ w = w' := by
  apply w44
  unfold F44
  cases b <;> simp

theorem cwValid_ok (c : Cw) (w : World) : Does Try.prog 27 #[c.val] w fun v w' => v = .bool c.ok ∧ Mod [] w w' := by
  apply w27
  unfold F27
  refine New.use fun w1 hB m _ => ?_
  unfold Cw.ok
  refine ⟨_, hB.cell0, ?_⟩
  split <;> rename_i h1
  · refine ⟨_, hB.cell0, ?_⟩
    split <;> rename_i h2
    · refine ⟨_, hB.cell (i := 4) rfl, ?_⟩
      split <;> rename_i h3
      · refine ⟨_, hB.cell (i := 4) rfl, ?_⟩
        split <;> rename_i h4
        · refine ⟨_, hB.cell (i := 5) rfl, ?_⟩
          split <;> rename_i h5
          · refine ⟨_, hB.cell (i := 5) rfl, ?_, m⟩
            simp [h1, h2, h3, h4, h5]
          · exact ⟨by simp [h5], m⟩
        · exact ⟨by simp [h4], m⟩
      · exact ⟨by simp [h3], m⟩
    · exact ⟨by simp [h2], m⟩
  · exact ⟨by simp [h1], m⟩
theorem cwRefValid_ok (c : Cw) (w : World) : Does Try.prog 28 #[c.val] w fun v w' => v = .bool c.ok ∧ Mod [] w w' := by
  apply w28
  unfold F28
  refine New.use fun w1 hB m _ => ?_
  unfold Cw.ok
  refine ⟨_, hB.cell0, ?_⟩
  split <;> rename_i h1
  · refine ⟨_, hB.cell0, ?_⟩
    split <;> rename_i h2
    · refine ⟨_, hB.cell (i := 4) rfl, ?_⟩
      split <;> rename_i h3
      · refine ⟨_, hB.cell (i := 4) rfl, ?_⟩
        split <;> rename_i h4
        · refine ⟨_, hB.cell (i := 5) rfl, ?_⟩
          split <;> rename_i h5
          · refine ⟨_, hB.cell (i := 5) rfl, ?_, m⟩
            simp [h1, h2, h3, h4, h5]
          · exact ⟨by simp [h5], m⟩
        · exact ⟨by simp [h4], m⟩
      · exact ⟨by simp [h3], m⟩
    · exact ⟨by simp [h2], m⟩
  · exact ⟨by simp [h1], m⟩

theorem wrapN (n : Int) (h0 : 0 ≤ n) (h1 : n < 18446744073709551616) : IntKind.u64.wrap n = ((n.toNat : Nat) : Int) := by rw [wu64]; omega

theorem cw_pack (c : Cw) (h : c.ok = true) : pack ([] ++ field 0 6 ++ field 1 2 ++ field c.ch.toNat 6 ++ field 0 4 ++ field c.lo.toNat 1 ++ field c.wa.toNat 1 ++ field c.re.toNat 1 ++ field c.bp.toNat 2 ++ field 0 1 ++ field c.nx.toNat 8) = be c.n 4 := by
  simp only [Cw.ok, decide_eq_true_eq] at h
  have h1 : c.lo.toNat ≤ 1 := by cases c.lo <;> simp
  have h2 : c.wa.toNat ≤ 1 := by cases c.wa <;> simp
  have h3 : c.re.toNat ≤ 1 := by cases c.re <;> simp
  rw [List.nil_append, field_cat _ _ _ _ (by omega), field_cat _ _ _ _ (by omega), field_cat _ _ _ _ (by omega), field_cat _ _ _ _ (by omega), field_cat _ _ _ _ (by omega), field_cat _ _ _ _ (by omega), field_cat _ _ _ _ (by omega), field_cat _ _ _ _ (by omega), field_cat _ _ _ _ (by omega)]
  rw [show 6 + 2 + 6 + 4 + 1 + 1 + 1 + 2 + 1 + 8 = 8 * 4 from rfl, pack_field]
  congr 1
  unfold Cw.n
  omega

theorem cwEncode_ok (c : Cw) (w : World) : Does Try.prog 18 #[c.val] w fun v w' => ∃ a k, v = .tuple #[.slice a c.out.length k, .int .i64 c.err] ∧ Own w' 5 1 a c.out.length k (c.out.map bv) ∧ Mod [] w w' ∧ Since w (fp a) := by
  apply w18
  unfold F18
  refine New.use fun w1 hB m1 _ => ?_
  refine ⟨_, _, _, _, _, _, hB.cells, ?_⟩
  refine (cwValid_ok c w1).mono ?_
  rintro _ w2 ⟨rfl, m2⟩
  refine ⟨_, rfl, ?_⟩
  have hb2 := hB.mod m2 (by simp)
  have M2 := m1.none m2
  by_cases hok : c.ok = false
  · rw [if_pos (by simpa using hok)]
    unfold Cw.out Cw.err
    rw [if_neg (by simp [hok]), if_neg (by simp [hok])]
    exact ⟨none, 0, rfl, Own.nil, M2, by simp [Since, fp]⟩
  have hok : c.ok = true := by simpa using hok
  rw [if_neg (by simp [hok])]
  have hr := hok
  simp only [Cw.ok, decide_eq_true_eq] at hr
  have b1 : c.lo.toNat ≤ 1 := by cases c.lo <;> simp
  have b2 : c.wa.toNat ≤ 1 := by cases c.wa <;> simp
  have b3 : c.re.toNat ≤ 1 := by cases c.re <;> simp
  refine (Wn.new w2).mono ?_
  rintro _ w3 ⟨rfl, h3⟩
  have at_ : ∀ {w' : World} {L : List Bool}, Wn w2 w' w2.heap.size L → Blk w' w.heap.size 24 c.cells := fun h => hb2.mod h.m (by simp)
  have h3 := h3.drew
  refine ⟨_, rfl, _, (at_ h3).cell0, ?_⟩
  refine (h3.putAt 0 6 rfl (by omega) (by omega) (by simp)).mono ?_
  rintro _ w4 ⟨rfl, h4⟩
  refine ⟨_, rfl, (at_ h4).cell0, ?_⟩
  refine (h4.putAt 1 2 rfl (by omega) (by omega) (by simp [field_len])).mono ?_
  rintro _ w5 ⟨rfl, h5⟩
  refine ⟨_, rfl, (at_ h5).cell0, ?_⟩
  refine (h5.putAt c.ch.toNat 6 (wrapN _ (by omega) (by omega)) (by omega) (by omega) (by simp [field_len])).mono ?_
  rintro _ w6 ⟨rfl, h6⟩
  refine ⟨_, rfl, ?_⟩
  refine (h6.putAt 0 4 rfl (by omega) (by omega) (by simp [field_len])).mono ?_
  rintro _ w7 ⟨rfl, h7⟩
  have h7 := h7.drew
  refine ⟨_, rfl, _, (at_ h7).cell (i := 1) rfl, _, (at_ h7).cell (i := 2) rfl, _, (at_ h7).cell (i := 3) rfl, ?_⟩
  refine (cwFlag_ok c.lo _).mono ?_
  rintro _ _ ⟨rfl, rfl⟩
  refine ⟨_, rfl, (at_ h7).cell (i := 2) rfl, (at_ h7).cell (i := 3) rfl, ?_⟩
  refine (h7.putAt c.lo.toNat 1 rfl (by omega) (by omega) (by simp [field_len])).mono ?_
  rintro _ w8 ⟨rfl, h8⟩
  refine ⟨_, rfl, (at_ h8).cell (i := 2) rfl, (at_ h8).cell (i := 3) rfl, ?_⟩
  refine (cwFlag_ok c.wa _).mono ?_
  rintro _ _ ⟨rfl, rfl⟩
  refine ⟨_, rfl, (at_ h8).cell (i := 3) rfl, ?_⟩
  refine (h8.putAt c.wa.toNat 1 rfl (by omega) (by omega) (by simp [field_len])).mono ?_
  rintro _ w9 ⟨rfl, h9⟩
  refine ⟨_, rfl, (at_ h9).cell (i := 3) rfl, ?_⟩
  refine (cwFlag_ok c.re _).mono ?_
  rintro _ _ ⟨rfl, rfl⟩
  refine ⟨_, rfl, ?_⟩
  refine (h9.putAt c.re.toNat 1 rfl (by omega) (by omega) (by simp [field_len])).mono ?_
  rintro _ w10 ⟨rfl, h10⟩
  have h10 := h10.drew
  refine ⟨_, rfl, _, (at_ h10).cell (i := 4) rfl, _, (at_ h10).cell (i := 5) rfl, ?_⟩
  refine (h10.putAt c.bp.toNat 2 (wrapN _ (by omega) (by omega)) (by omega) (by omega) (by simp [field_len])).mono ?_
  rintro _ w11 ⟨rfl, h11⟩
  refine ⟨_, rfl, (at_ h11).cell (i := 5) rfl, ?_⟩
  refine (h11.putAt 0 1 rfl (by omega) (by omega) (by simp [field_len])).mono ?_
  rintro _ w12 ⟨rfl, h12⟩
  refine ⟨_, rfl, (at_ h12).cell (i := 5) rfl, ?_⟩
  refine (h12.putAt c.nx.toNat 8 (wrapN _ (by omega) (by omega)) (by omega) (by omega) (by simp [field_len])).mono ?_
  rintro _ w13 ⟨rfl, h13⟩
  refine ⟨_, rfl, ?_⟩
  refine (h13.bytes (by simp [field_len])).mono ?_
  rintro _ w14 ⟨a, k, rfl, ho, m, s⟩
  have e := cw_pack c hok
  rw [e] at ho ⊢
  unfold Cw.out Cw.err
  rw [if_pos hok, if_pos hok]
  have := M2.size
  exact ⟨_, _, _, rfl, a, k, rfl, ho, M2.none m, fun x hx => by have := s x hx; omega⟩

theorem cw_bytes (c : Cw) (h : c.ok = true) : (be c.n 4).map bv = [.int .u8 1, .int .u8 (IntKind.u8.wrap (IntKind.i64.wrap (4 * c.ch))), .int .u8 (IntKind.u8.wrap (IntKind.i64.wrap ((IntKind.i64.wrap ((IntKind.i64.wrap ((if c.lo then 32 else 0) + (if c.wa then 16 else 0))) + (if c.re then 8 else 0))) + (IntKind.i64.wrap (2 * c.bp))))), .int .u8 (IntKind.u8.wrap c.nx)] := by
  simp only [Cw.ok, decide_eq_true_eq] at h
  have e1 : (if c.lo then 32 else 0 : Int) = 32 * (c.lo.toNat : Int) := by cases c.lo <;> rfl
  have e2 : (if c.wa then 16 else 0 : Int) = 16 * (c.wa.toNat : Int) := by cases c.wa <;> rfl
  have e3 : (if c.re then 8 else 0 : Int) = 8 * (c.re.toNat : Int) := by cases c.re <;> rfl
  have h1 : c.lo.toNat ≤ 1 := by cases c.lo <;> simp
  have h2 : c.wa.toNat ≤ 1 := by cases c.wa <;> simp
  have h3 : c.re.toNat ≤ 1 := by cases c.re <;> simp
  rw [e1, e2, e3]
  generalize hN : c.n = N
  unfold Cw.n at hN
  generalize c.lo.toNat = x at *
  generalize c.wa.toNat = y at *
  generalize c.re.toNat = z at *
  rw [wi64 (n := 4 * c.ch) (by omega), wi64 (n := 32 * (x : Int) + _) (by omega), wi64 (n := 32 * (x : Int) + 16 * (y : Int) + _) (by omega), wi64 (n := 2 * c.bp) (by omega), wi64 (by omega)]
  simp only [be, List.nil_append, List.cons_append, List.map_cons, List.map_nil, bv_ofNat, wu8]
  refine congr (congrArg _ ?_) (congr (congrArg _ ?_) (congr (congrArg _ ?_) (congr (congrArg _ ?_) rfl))) <;> · congr 1; omega

theorem cwRefEncode_ok (c : Cw) (w : World) : Does Try.prog 23 #[c.val] w fun v w' => ∃ a k, v = .tuple #[.slice a c.out.length k, .int .i64 c.err] ∧ Own w' 5 1 a c.out.length k (c.out.map bv) ∧ Mod [] w w' ∧ Since w (fp a) := by
  apply w23
  unfold F23
  refine New.use fun w1 hB m1 _ => ?_
  refine ⟨_, _, _, _, _, _, hB.cells, ?_⟩
  refine (cwRefValid_ok c w1).mono ?_
  rintro _ w2 ⟨rfl, m2⟩
  refine ⟨_, rfl, ?_⟩
  have hb2 := (hB.mod m2 (by simp)).drew
  have M2 := (m1.none m2).none (Mod.drew (S := []) w2)
  by_cases hok : c.ok = false
  · rw [if_pos (by simpa using hok)]
    unfold Cw.out Cw.err
    rw [if_neg (by simp [hok]), if_neg (by simp [hok])]
    exact ⟨none, 0, rfl, Own.nil, m1.none m2, by simp [Since, fp]⟩
  have hok : c.ok = true := by simpa using hok
  rw [if_neg (by simp [hok])]
  refine ⟨_, hb2.cell0, _, hb2.cell (i := 1) rfl, _, hb2.cell (i := 2) rfl, _, hb2.cell (i := 3) rfl, _, hb2.cell (i := 4) rfl, _, hb2.cell (i := 5) rfl, ?_⟩
  refine (refFlag_ok c.lo 32 _).mono ?_
  rintro _ _ ⟨rfl, rfl⟩
  refine ⟨_, rfl, hb2.cell0, hb2.cell (i := 2) rfl, hb2.cell (i := 3) rfl, hb2.cell (i := 4) rfl, hb2.cell (i := 5) rfl, ?_⟩
  refine (refFlag_ok c.wa 16 _).mono ?_
  rintro _ _ ⟨rfl, rfl⟩
  refine ⟨_, rfl, hb2.cell0, hb2.cell (i := 3) rfl, hb2.cell (i := 4) rfl, hb2.cell (i := 5) rfl, ?_⟩
  refine (refFlag_ok c.re 8 _).mono ?_
  rintro _ _ ⟨rfl, rfl⟩
  refine ⟨_, rfl, hb2.cell0, hb2.cell (i := 4) rfl, hb2.cell (i := 5) rfl, ?_⟩
  refine New.use fun w3 h3 m3 _ => ?_
  unfold Cw.out Cw.err
  rw [if_pos hok, if_pos hok]
  have := M2.size
  refine ⟨_, 4, rfl, ?_, M2.none m3, fun x hx => by simp [fp, base] at hx; rw [size_drew] at *; omega⟩
  rw [cw_bytes c hok]
  exact Own.blk (n := 4) h3 rfl (by decide)
end Go.Proofs.Ytpioadkiomcdlaa
