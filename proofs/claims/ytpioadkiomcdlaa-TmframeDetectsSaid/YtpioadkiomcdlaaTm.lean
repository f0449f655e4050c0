/-
  Telemetry frames: Valid, Encode, of the program and of the reference.
-/
import Derived.Test.YtpioadkiomcdlaaBytesJoin
import Derived.Test.YtpioadkiomcdlaaBitsRef
import Derived.Test.YtpioadkiomcdlaaClcwDec
import Derived.Test.YtpioadkiomcdlaaCrcW3
namespace Go.Proofs.Ytpioadkiomcdlaa
open Go Go.Sh Go.Proofs
set_option linter.unusedVariables false
set_option linter.unusedSimpArgs false

structure Tm where
  cr : Int
  ch : Int
  ma : Int
  co : Int
  fi : Int
  d : List UInt8
  cw : Cw
deriving DecidableEq
abbrev Tm.cells (f : Tm) (a : Option Addr) (c : Nat) : List Value := [.int .i64 f.cr, .int .i64 f.ch, .int .i64 f.ma, .int .i64 f.co, .int .i64 f.fi, .slice a f.d.length c, .int .i64 f.cw.ch, .bool f.cw.lo, .bool f.cw.wa, .bool f.cw.re, .int .i64 f.cw.bp, .int .i64 f.cw.nx]
abbrev Tm.val (f : Tm) (a : Option Addr) (c : Nat) : Value := .agg #[.int .i64 f.cr, .int .i64 f.ch, .int .i64 f.ma, .int .i64 f.co, .int .i64 f.fi, .slice a f.d.length c, .int .i64 f.cw.ch, .bool f.cw.lo, .bool f.cw.wa, .bool f.cw.re, .int .i64 f.cw.bp, .int .i64 f.cw.nx]
def Tm.ok (f : Tm) : Bool := decide (0 ≤ f.cr ∧ f.cr ≤ 1023 ∧ 0 ≤ f.ch ∧ f.ch ≤ 7 ∧ 0 ≤ f.ma ∧ f.ma ≤ 255 ∧ 0 ≤ f.co ∧ f.co ≤ 255 ∧ 0 ≤ f.fi ∧ f.fi ≤ 2047 ∧ 1 ≤ f.d.length ∧ f.d.length ≤ 1012) && f.cw.ok
def Tm.hd (f : Tm) : Nat := f.cr.toNat * 2 ^ 36 + f.ch.toNat * 2 ^ 33 + 2 ^ 32 + f.ma.toNat * 2 ^ 24 + f.co.toNat * 2 ^ 16 + 3 * 2 ^ 11 + f.fi.toNat
def Tm.enc (f : Tm) : List UInt8 := app16 (be f.hd 6 ++ f.d ++ be f.cw.n 4)
def Tm.out (f : Tm) : List UInt8 := if f.ok then f.enc else []
def Tm.err (f : Tm) : Int := if f.ok then 0 else 1
def Tm.zero : Tm := ⟨0, 0, 0, 0, 0, [], Cw.zero⟩
theorem Tm.enc_len (f : Tm) : f.enc.length = f.d.length + 12 := by simp [Tm.enc, app16, be_len]; omega
theorem Tm.okr {f : Tm} (h : f.ok = true) : (0 ≤ f.cr ∧ f.cr ≤ 1023 ∧ 0 ≤ f.ch ∧ f.ch ≤ 7 ∧ 0 ≤ f.ma ∧ f.ma ≤ 255 ∧ 0 ≤ f.co ∧ f.co ≤ 255 ∧ 0 ≤ f.fi ∧ f.fi ≤ 2047 ∧ 1 ≤ f.d.length ∧ f.d.length ≤ 1012) ∧ f.cw.ok = true := by
  unfold Tm.ok at h
  rw [Bool.and_eq_true, decide_eq_true_eq] at h
  exact h

section
variable (f : Tm) (a : Option Addr) (c : Nat)
theorem within_ok (n m : Int) (w : World) : Does Try.prog 26 #[.int .i64 n, .int .i64 m] w fun v w' => v = .bool (decide (0 ≤ n ∧ n ≤ m)) ∧ w = w' := by
  apply w26
  unfold F26
  refine iteI (fun h => ⟨?_, rfl⟩) (fun h => ⟨?_, rfl⟩)
  · congr 1; rw [decide_eq_decide]; exact ⟨fun h' => ⟨h, h'⟩, fun h' => h'.2⟩
  · congr 1; symm; rw [decide_eq_false_iff_not]; exact fun h' => h h'.1
theorem tmValid_ok (w : World) : Does Try.prog 11 #[f.val a c] w fun v w' => v = .bool f.ok ∧ Mod [] w w' := by
  apply w11
  unfold F11
  refine New.use fun w1 hB m _ => ?_
  have no : ∀ {P : Prop}, ¬ P → (f.ok = true → P) → f.ok = false := fun h h' => by cases hk : f.ok; rfl; exact absurd (h' hk) h
  refine ⟨_, hB.cell0, (within_ok _ _ _).mono ?_⟩
  rintro _ _ ⟨rfl, rfl⟩
  refine ⟨_, rfl, iteI (fun h1 => ?_) (fun h1 => ⟨by rw [no h1 (fun h => by have := (Tm.okr h).1; simp; omega)], m⟩)⟩
  refine ⟨_, hB.cell (i := 1) rfl, (within_ok _ _ _).mono ?_⟩
  rintro _ _ ⟨rfl, rfl⟩
  refine ⟨_, rfl, iteI (fun h2 => ?_) (fun h1 => ⟨by rw [no h1 (fun h => by have := (Tm.okr h).1; simp; omega)], m⟩)⟩
  refine ⟨_, hB.cell (i := 2) rfl, (within_ok _ _ _).mono ?_⟩
  rintro _ _ ⟨rfl, rfl⟩
  refine ⟨_, rfl, iteI (fun h3 => ?_) (fun h1 => ⟨by rw [no h1 (fun h => by have := (Tm.okr h).1; simp; omega)], m⟩)⟩
  refine ⟨_, hB.cell (i := 3) rfl, (within_ok _ _ _).mono ?_⟩
  rintro _ _ ⟨rfl, rfl⟩
  refine ⟨_, rfl, iteI (fun h4 => ?_) (fun h1 => ⟨by rw [no h1 (fun h => by have := (Tm.okr h).1; simp; omega)], m⟩)⟩
  refine ⟨_, hB.cell (i := 4) rfl, (within_ok _ _ _).mono ?_⟩
  rintro _ _ ⟨rfl, rfl⟩
  refine ⟨_, rfl, iteI (fun h5 => ?_) (fun h1 => ⟨by rw [no h1 (fun h => by have := (Tm.okr h).1; simp; omega)], m⟩)⟩
  refine ⟨_, _, _, hB.cell (i := 5) rfl, iteI (fun h6 => ?_) (fun h1 => ⟨by rw [no h1 (fun h => by have := (Tm.okr h).1; omega)], m⟩)⟩
  refine ⟨_, _, _, hB.cell (i := 5) rfl, iteI (fun h7 => ?_) (fun h1 => ⟨by rw [no h1 (fun h => by have := (Tm.okr h).1; omega)], m⟩)⟩
  refine ⟨_, _, _, _, _, _, hB.cellsFrom (i := 6) (n := 6) (by simp), (cwValid_ok f.cw _).mono ?_⟩
  rintro _ w2 ⟨rfl, m2⟩
  refine ⟨_, rfl, ?_, m.none m2⟩
  congr 1
  unfold Tm.ok
  rw [decide_eq_true (by simp at h1 h2 h3 h4 h5; omega), Bool.true_and]

theorem tmRefValid_ok (w : World) : Does Try.prog 12 #[f.val a c] w fun v w' => v = .bool f.ok ∧ Mod [] w w' := by
  apply w12
  unfold F12
  refine New.use fun w1 hB m _ => ?_
  have nf : (f.ok = true → False) → Value.bool false = Value.bool f.ok := fun h => by cases hk : f.ok; rfl; exact absurd hk h
  repeat' first | refine iteI (fun h => ?_) (fun h => ?_) | refine ⟨_, hB.cell rfl, ?_⟩ | refine ⟨_, _, _, hB.cell rfl, ?_⟩ | refine ⟨_, hB.cell0, ?_⟩ | fail
  all_goals first | (refine ⟨nf (fun h => ?_), m⟩; have := (Tm.okr h).1; omega) | skip
  refine ⟨_, _, _, _, _, _, hB.cellsFrom (i := 6) (n := 6) (by simp), (cwRefValid_ok f.cw _).mono ?_⟩
  rintro _ w2 ⟨rfl, m2⟩
  refine ⟨_, rfl, ?_, m.none m2⟩
  congr 1
  unfold Tm.ok
  rw [decide_eq_true (by omega), Bool.true_and]

theorem tm_pack (h : f.ok = true) : pack ([] ++ field 0 2 ++ field f.cr.toNat 10 ++ field f.ch.toNat 3 ++ field 1 1 ++ field f.ma.toNat 8 ++ field f.co.toNat 8 ++ field 3 5 ++ field f.fi.toNat 11) = be f.hd 6 := by
  have hr := (Tm.okr h).1
  rw [List.nil_append, field_cat _ _ _ _ (by omega), field_cat _ _ _ _ (by omega), field_cat _ _ _ _ (by omega), field_cat _ _ _ _ (by omega), field_cat _ _ _ _ (by omega), field_cat _ _ _ _ (by omega), field_cat _ _ _ _ (by omega)]
  rw [show 2 + 10 + 3 + 1 + 8 + 8 + 5 + 11 = 8 * 6 from rfl, pack_field]
  refine congrArg (fun n => be n 6) ?_
  unfold Tm.hd
  omega

def EncQ (w : World) (l : List UInt8) (e : Int) (v : Value) (w' : World) : Prop := ∃ x k, v = .tuple #[.slice x l.length k, .int .i64 e] ∧ Rd w' x (l.map bv) ∧ l.length ≤ k ∧ Mod [] w w' ∧ Since w (fp x)

theorem tmEncode_ok {w : World} (hr : Rd w a (f.d.map bv)) : Does Try.prog 9 #[f.val a c] w (EncQ w f.out f.err) := by
  apply w9
  unfold F9
  refine New.use fun w1 hB m1 _ => ?_
  refine ⟨_, _, _, _, _, _, _, _, _, _, _, _, _, _, hB.cells, ?_⟩
  refine (tmValid_ok f a c w1).mono ?_
  rintro _ w2 ⟨rfl, m2⟩
  refine ⟨_, rfl, ?_⟩
  have M2 := m1.none m2
  unfold Tm.out Tm.err
  by_cases hok : f.ok = false
  · rw [if_pos (by simpa using hok), if_neg (by simp [hok]), if_neg (by simp [hok])]
    exact ⟨none, 0, rfl, Rd.nil, Nat.le_refl _, M2, by simp [Since, fp]⟩
  have hok : f.ok = true := by simpa using hok
  rw [if_neg (by simp [hok]), if_pos hok, if_pos hok]
  obtain ⟨hrr, hcw⟩ := Tm.okr hok
  have hb2 := hB.mod m2 (by simp)
  refine (Wn.new w2).mono ?_
  rintro _ w3 ⟨rfl, h3⟩
  have at_ : ∀ {w' : World} {L : List Bool}, Wn w2 w' w2.heap.size L → Blk w' w.heap.size 26 (f.cells a c) := fun h => hb2.mod h.m (by simp)
  have h3 := h3.drew
  refine ⟨_, rfl, _, (at_ h3).cell0, _, (at_ h3).cell (i := 1) rfl, ?_⟩
  refine (h3.putAt 0 2 rfl (by omega) (by omega) (by simp)).mono ?_
  rintro _ w4 ⟨rfl, h4⟩
  refine ⟨_, rfl, (at_ h4).cell0, (at_ h4).cell (i := 1) rfl, ?_⟩
  refine (h4.putAt f.cr.toNat 10 (wrapN _ (by omega) (by omega)) (by omega) (by omega) (by simp [field_len])).mono ?_
  rintro _ w5 ⟨rfl, h5⟩
  refine ⟨_, rfl, (at_ h5).cell (i := 1) rfl, ?_⟩
  refine (h5.putAt f.ch.toNat 3 (wrapN _ (by omega) (by omega)) (by omega) (by omega) (by simp [field_len])).mono ?_
  rintro _ w6 ⟨rfl, h6⟩
  refine ⟨_, rfl, ?_⟩
  refine (h6.putAt 1 1 rfl (by omega) (by omega) (by simp [field_len])).mono ?_
  rintro _ w7 ⟨rfl, h7⟩
  have h7 := h7.drew
  refine ⟨_, rfl, _, (at_ h7).cell (i := 2) rfl, _, (at_ h7).cell (i := 3) rfl, _, (at_ h7).cell (i := 4) rfl, ?_⟩
  refine (h7.putAt f.ma.toNat 8 (wrapN _ (by omega) (by omega)) (by omega) (by omega) (by simp [field_len])).mono ?_
  rintro _ w8 ⟨rfl, h8⟩
  refine ⟨_, rfl, (at_ h8).cell (i := 3) rfl, (at_ h8).cell (i := 4) rfl, ?_⟩
  refine (h8.putAt f.co.toNat 8 (wrapN _ (by omega) (by omega)) (by omega) (by omega) (by simp [field_len])).mono ?_
  rintro _ w9 ⟨rfl, h9⟩
  refine ⟨_, rfl, (at_ h9).cell (i := 4) rfl, ?_⟩
  refine (h9.putAt 3 5 rfl (by omega) (by omega) (by simp [field_len])).mono ?_
  rintro _ w10 ⟨rfl, h10⟩
  refine ⟨_, rfl, (at_ h10).cell (i := 4) rfl, ?_⟩
  refine (h10.putAt f.fi.toNat 11 (wrapN _ (by omega) (by omega)) (by omega) (by omega) (by simp [field_len])).mono ?_
  rintro _ w11 ⟨rfl, h11⟩
  refine ⟨_, rfl, _, _, _, _, _, _, (at_ h11).cellsFrom (i := 6) (n := 6) (by simp), ?_⟩
  refine (cwEncode_ok f.cw w11).mono ?_
  rintro _ w12 ⟨x12, k12, rfl, o12, m12, s12⟩
  unfold Cw.out Cw.err at *
  rw [if_pos hcw] at o12 ⊢
  rw [if_pos hcw]
  refine ⟨_, _, _, _, rfl, ?_⟩
  rw [if_neg (by simp)]
  have h12 := (h11.mod m12).drew
  refine ⟨_, _, _, (at_ h12).cell (i := 5) rfl, ?_⟩
  refine (h12.bytes2 (by simp [field_len])).mono ?_
  rintro _ w13 ⟨x13, k13, rfl, o13, m13, s13⟩
  have M13 := h12.m.none m13
  have e := tm_pack f hok
  rw [e] at o13 ⊢
  -- the word and the data are as they were
  have mw : Mod [] w12 w13 := (Mod.drew w12).none m13
  refine ⟨_, _, _, rfl, (hb2.mod M13 (by simp)).cell (i := 5) rfl, ?_⟩
  refine New.use fun w14 h14 m14 z14 => ?_
  have rB : Rd w14 (some (base w13.heap.size)) ([(x13, be f.hd 6, k13), (a, f.d, c), (x12, be f.cw.n 4, k12)].map bsv) := Rd.blk h14
  have jn := bytesJoin_ok (w := w14) (L := [(x13, be f.hd 6, k13), (a, f.d, c), (x12, be f.cw.n 4, k12)]) 3 0 none (by simp) (by simp) (by simp [lens, be_len]; omega) (by simp) rB (by
    intro y hy
    simp at hy
    rcases hy with rfl | rfl | rfl
    · exact o13.rd.mod m14 (by simp)
    · exact (hr.mod (M2.none M13) (by simp)).mod m14 (by simp)
    · exact (o12.rd.mod mw (by simp)).mod m14 (by simp))
  have ej : joined [(x13, be f.hd 6, k13), (a, f.d, c), (x12, be f.cw.n 4, k12)] = be f.hd 6 ++ f.d ++ be f.cw.n 4 := by simp [joined]
  rw [ej] at jn
  refine jn.mono ?_
  rintro _ w15 ⟨x15, k15, rfl, r15, c15, m15, s15⟩
  refine ⟨_, _, _, rfl, ?_⟩
  refine (append16_ok x15 (be f.hd 6 ++ f.d ++ be f.cw.n 4) k15 w15 (by simp [be_len]; omega) r15).mono ?_
  rintro _ w16 ⟨x16, k16, rfl, o16, m16, s16⟩
  have el : (be f.hd 6 ++ f.d ++ be f.cw.n 4).length + 2 = f.enc.length := by simp [Tm.enc, app16]; omega
  rw [el] at o16 ⊢
  have z := (((M2.none M13).none m14).none m15).size
  exact ⟨_, _, _, rfl, x16, k16, rfl, o16.rd, o16.le, (((M2.none M13).none m14).none m15).none m16, fun y hy => by have := s16 y hy; omega⟩

/-- The reference's writer, new since w0. -/
def Rn (w0 w : World) (g : Nat) (L : List Bool) : Prop := ∃ S, Rw w g S L ∧ Since w0 S ∧ Mod [] w0 w
theorem Rn.m {w0 w : World} {g : Nat} {L : List Bool} (h : Rn w0 w g L) : Mod [] w0 w := by obtain ⟨_, _, _, m⟩ := h; exact m
theorem Rn.mod {w0 w w' : World} {g : Nat} {L : List Bool} (h : Rn w0 w g L) (m : Mod [] w w') : Rn w0 w' g L := by
  obtain ⟨S, h1, h2, h3⟩ := h
  exact ⟨S, h1.mod m (by simp), h2, h3.none m⟩
theorem Rn.put {w0 w : World} {g : Nat} {L : List Bool} (h : Rn w0 w g L) {x : Int} (n wd : Nat) (hx : x = (n : Int)) (hwd : wd ≤ 64) (hL : L.length ≤ 900000) :
    Does Try.prog 22 #[.pointer (some (base g)), .int .u64 x, .int .i64 (wd : Int)] w fun v w' => v = .tuple #[] ∧ Rn w0 w' g (L ++ field n wd) := by
  subst hx
  obtain ⟨S, h1, h2, h3⟩ := h
  refine (refPut_ok h1 hwd hL).mono ?_
  rintro _ w' ⟨rfl, S', h', m', f⟩
  exact ⟨rfl, S', h', h2.step h3.size f, h3.since m' h2⟩
theorem Rn.bytes {w0 w : World} {g : Nat} {L : List Bool} (h : Rn w0 w g L) (hL : L.length ≤ 1000000) : Does Try.prog 24 #[.pointer (some (base g))] w fun v w' =>
    ∃ a c, v = .slice a (pack L).length c ∧ Own w' 5 1 a (pack L).length c ((pack L).map bv) ∧ Mod [] w w' ∧ Since w (fp a) := by
  obtain ⟨S, h1, h2, h3⟩ := h
  refine (refBytes_ok h1 hL).mono ?_
  rintro _ w' ⟨a, c, rfl, ho, m, f⟩
  exact ⟨a, c, rfl, ho, m, f⟩
theorem app_bytes {w : World} {x y : Option Addr} {k c : Nat} {l m : List UInt8} (ho : Own w 5 1 x l.length k (l.map bv)) (hr : Rd w y (m.map bv)) (hl : l.length + m.length ≤ 1000000) :
    ∃ a' c' w', (Builtin.append_ #[22, 22] 22 #[.slice x l.length k, .slice y m.length c]).run Try.prog w = .ok (.slice a' (l ++ m).length c') w' ∧ Own w' 5 1 a' (l ++ m).length c' ((l ++ m).map bv) ∧ Mod (fp x) w w' ∧ (fp a' = fp x ∨ fp a' = [w.heap.size]) := by
  obtain ⟨a', c', w', h1, h2, h3, h4⟩ := append_own (d := c) Try.underlying22 elem5 22 ho hr (m := m.length) (by simp) (bv_one _) (by omega) (by omega)
  rw [← List.map_append] at h2
  rw [List.length_append]
  exact ⟨a', c', w', h1, h2, h3, h4⟩

theorem tmRefEncode_ok {w : World} (hr : Rd w a (f.d.map bv)) : Does Try.prog 10 #[f.val a c] w (EncQ w f.out f.err) := by
  apply w10
  unfold F10
  refine New.use fun w1 hB m1 _ => ?_
  refine ⟨_, _, _, _, _, _, _, _, _, _, _, _, _, _, hB.cells, ?_⟩
  refine (tmRefValid_ok f a c w1).mono ?_
  rintro _ w2 ⟨rfl, m2⟩
  refine ⟨_, rfl, ?_⟩
  have M2 := m1.none m2
  unfold Tm.out Tm.err
  by_cases hok : f.ok = false
  · rw [if_pos (by simpa using hok), if_neg (by simp [hok]), if_neg (by simp [hok])]
    exact ⟨none, 0, rfl, Rd.nil, Nat.le_refl _, M2, by simp [Since, fp]⟩
  have hok : f.ok = true := by simpa using hok
  rw [if_neg (by simp [hok]), if_pos hok, if_pos hok]
  obtain ⟨hrr, hcw⟩ := Tm.okr hok
  have hb2 := hB.mod m2 (by simp)
  refine New.use fun w3 hw3 m3 z3 => ?_
  have h3 : Rn w2 w3 w2.heap.size [] := ⟨_, ⟨none, 0, rfl, hw3, Own.nil⟩, by intro x hx; simp [fp] at hx; omega, m3⟩
  have at_ : ∀ {w' : World} {L : List Bool}, Rn w2 w' w2.heap.size L → Blk w' w.heap.size 26 (f.cells a c) := fun h => hb2.mod h.m (by simp)
  refine (h3.put 0 2 rfl (by omega) (by simp)).mono ?_
  rintro _ w4 ⟨rfl, h4⟩
  refine ⟨rfl, _, (at_ h4).cell0, ?_⟩
  refine (h4.put f.cr.toNat 10 (wrapN _ (by omega) (by omega)) (by omega) (by simp [field_len])).mono ?_
  rintro _ w5 ⟨rfl, h5⟩
  refine ⟨rfl, _, (at_ h5).cell (i := 1) rfl, ?_⟩
  refine (h5.put f.ch.toNat 3 (wrapN _ (by omega) (by omega)) (by omega) (by simp [field_len])).mono ?_
  rintro _ w6 ⟨rfl, h6⟩
  refine ⟨rfl, ?_⟩
  refine (h6.put 1 1 rfl (by omega) (by simp [field_len])).mono ?_
  rintro _ w7 ⟨rfl, h7⟩
  refine ⟨rfl, _, (at_ h7).cell (i := 2) rfl, ?_⟩
  refine (h7.put f.ma.toNat 8 (wrapN _ (by omega) (by omega)) (by omega) (by simp [field_len])).mono ?_
  rintro _ w8 ⟨rfl, h8⟩
  refine ⟨rfl, _, (at_ h8).cell (i := 3) rfl, ?_⟩
  refine (h8.put f.co.toNat 8 (wrapN _ (by omega) (by omega)) (by omega) (by simp [field_len])).mono ?_
  rintro _ w9 ⟨rfl, h9⟩
  refine ⟨rfl, ?_⟩
  refine (h9.put 3 5 rfl (by omega) (by simp [field_len])).mono ?_
  rintro _ w10 ⟨rfl, h10⟩
  refine ⟨rfl, _, (at_ h10).cell (i := 4) rfl, ?_⟩
  refine (h10.put f.fi.toNat 11 (wrapN _ (by omega) (by omega)) (by omega) (by simp [field_len])).mono ?_
  rintro _ w11 ⟨rfl, h11⟩
  refine ⟨rfl, _, _, _, _, _, _, (at_ h11).cellsFrom (i := 6) (n := 6) (by simp), ?_⟩
  refine (cwRefEncode_ok f.cw w11).mono ?_
  rintro _ w12 ⟨x12, k12, rfl, o12, m12, s12⟩
  unfold Cw.out Cw.err at *
  rw [if_pos hcw] at o12 ⊢
  refine ⟨_, _, _, _, rfl, ?_⟩
  have md : Mod [] w12 w12.drew := Mod.drew w12
  have h12 := (h11.mod m12).mod md
  refine ⟨_, _, _, (at_ h12).cell (i := 5) rfl, ?_⟩
  refine (h12.bytes (by simp [field_len])).mono ?_
  rintro _ w13 ⟨x13, k13, rfl, o13, m13, s13⟩
  have M13 := h12.m.none m13
  have e := tm_pack f hok
  rw [e] at o13 ⊢
  have mw : Mod [] w12 w13 := md.none m13
  refine ⟨_, _, _, rfl, (hb2.mod M13 (by simp)).cell (i := 5) rfl, ?_⟩
  have hl6 := be_len f.hd 6
  have hl4 := be_len f.cw.n 4
  obtain ⟨x14, k14, w14, run14, o14, m14, f14⟩ := app_bytes (c := c) o13 (hr.mod (M2.none M13) (by simp)) (by omega)
  have z12 := M2.size
  have z12' := h12.m.size
  have z13 := m13.size
  have z14 := m14.size
  have M14 : Mod [] w w14 := (M2.none M13).trans m14 (fun y hy => .inr (by have := s13 y hy; omega))
  have fr14 : ∀ y ∈ fp x14, w12.heap.size ≤ y := fun y hy => by
    have e12 : w12.drew.heap.size = w12.heap.size := rfl
    rcases f14 with h | h <;> rw [h] at hy
    · have := s13 y hy; omega
    · simp at hy; omega
  refine ⟨_, _, _, w14, run14, ?_⟩
  have r12 : Rd w14 x12 ((be f.cw.n 4).map bv) := (o12.rd.mod mw (by simp)).mod m14 (fun y hy hy' => by have := s13 y hy'; have := o12.lt y hy; have e12 : w12.drew.heap.size = w12.heap.size := rfl; omega)
  obtain ⟨x15, k15, w15, run15, o15, m15, f15⟩ := app_bytes (c := k12) o14 r12 (by simp; omega)
  have z15 := m15.size
  have e12 : w12.drew.heap.size = w12.heap.size := rfl
  have M15 : Mod [] w w15 := M14.trans m15 (fun y hy => .inr (by have := fr14 y hy; have := (M2.none h11.m).size; have := m12.size; omega))
  have fr15 : ∀ y ∈ fp x15, w.heap.size ≤ y := fun y hy => by
    rcases f15 with h | h <;> rw [h] at hy
    · have := fr14 y hy; have := (M2.none h11.m).size; have := m12.size; omega
    · simp at hy; have := M14.size; omega
  refine ⟨_, _, _, w15, run15, ?_⟩
  have hll : (be f.hd 6 ++ f.d ++ be f.cw.n 4).length ≤ 1000000 := by simp [be_len]; omega
  refine (refSum16_ok x15 (be f.hd 6 ++ f.d ++ be f.cw.n 4) k15 w15 hll o15.rd).mono ?_
  rintro _ _ ⟨rfl, rfl⟩
  refine ⟨_, rfl, ?_⟩
  rw [hi16_ref, lo16_ref]
  refine New.use fun w16 h16 m16 z16 => ?_
  obtain ⟨x17, k17, w17, run17, o17, m17, f17⟩ := app_bytes (l := be f.hd 6 ++ f.d ++ be f.cw.n 4) (m := [hi16 (sum16 (be f.hd 6 ++ f.d ++ be f.cw.n 4)), lo16 (sum16 (be f.hd 6 ++ f.d ++ be f.cw.n 4))]) (c := 2) (o15.mod m16 (by simp)) (Rd.blk h16) (by simp; simp at hll; omega)
  refine ⟨_, _, _, w17, run17, ?_⟩
  refine ⟨x17, k17, rfl, o17.rd, o17.le, (M15.none m16).trans m17 (fun y hy => .inr (fr15 y hy)), fun y hy => ?_⟩
  rcases f17 with h | h <;> rw [h] at hy
  · exact fr15 y hy
  · simp at hy; have := (M15.none m16).size; omega
end
end Go.Proofs.Ytpioadkiomcdlaa
