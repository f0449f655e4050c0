/-
  Telecommand frames: Same, Directive, Unlock, SetNext.
-/
import Derived.Test.YtdbckjadafpenaaTcRef
namespace Go.Proofs.Ytdbckjadafpenaa
open Go Go.Sh Go.Proofs
set_option linter.unusedVariables false
set_option linter.unusedSimpArgs false

theorem tcSame_ok (f g : Tf) {a b : Option Addr} {c d : Nat} {w : World} (ha : Rd w a (f.d.map bv)) (hb : Rd w b (g.d.map bv)) : Does Try.prog 17 #[f.val a c, g.val b d] w fun v w' => v = .bool (decide (f = g)) ∧ Mod [] w w' := by
  apply w17
  unfold F17
  refine New.use fun w1 h1 m1 z1 => ?_
  refine New.use fun w2 h2 m2 z2 => ?_
  have h1 := h1.mod m2 (by simp)
  have M := m1.none m2
  refine ⟨_, h1.cell0, _, h2.cell0, iteI (fun e1 => ?_) (fun e1 => ⟨?_, M⟩)⟩
  · refine ⟨_, h1.cell (i := 1) rfl, _, h2.cell (i := 1) rfl, iteI (fun e2 => ?_) (fun e2 => ⟨?_, M⟩)⟩
    · refine ⟨_, h1.cell (i := 2) rfl, _, h2.cell (i := 2) rfl, iteI (fun e3 => ?_) (fun e3 => ⟨?_, M⟩)⟩
      · refine ⟨_, h1.cell (i := 3) rfl, _, h2.cell (i := 3) rfl, iteI (fun e4 => ?_) (fun e4 => ⟨?_, M⟩)⟩
        · refine ⟨_, h1.cell (i := 4) rfl, _, h2.cell (i := 4) rfl, iteI (fun e5 => ?_) (fun e5 => ⟨?_, M⟩)⟩
          · refine ⟨_, _, _, h1.cell (i := 5) rfl, _, toStr_ok c (ha.mod M (by simp)), _, _, _, h2.cell (i := 5) rfl, _, toStr_ok d (hb.mod M (by simp)), ?_, M⟩
            rw [strEq]
            refine congrArg Value.bool ?_
            obtain ⟨f1, f2, f3, f4, f5, f6⟩ := f
            obtain ⟨g1, g2, g3, g4, g5, g6⟩ := g
            simp only [beq_iff_eq] at e1 e2 e3 e4 e5
            subst e1 e2 e3 e4 e5
            rw [Bool.eq_iff_iff]
            simp
          · exact congrArg Value.bool (decide_eq_false (fun e => e5 (by rw [e]))).symm
        · exact congrArg Value.bool (decide_eq_false (fun e => e4 (by rw [e]))).symm
      · exact congrArg Value.bool (decide_eq_false (fun e => e3 (by rw [e]))).symm
    · exact congrArg Value.bool (decide_eq_false (fun e => e2 (by rw [e]; simp))).symm
  · exact congrArg Value.bool (decide_eq_false (fun e => e1 (by rw [e]; simp))).symm

def dirL (l : List UInt8) : Int × Int × Bool := if l.length = 1 ∧ l.getD 0 0 = 0 then (0, 0, true) else if l.length = 3 ∧ l.getD 0 0 = 130 ∧ l.getD 1 0 = 0 then (1, (l.getD 2 0).toNat, true) else (0, 0, false)
def Tf.dir (f : Tf) : Int × Int × Bool := if f.bp = true ∧ f.ct = true then dirL f.d else (0, 0, false)
theorem getD_eq {l : List UInt8} {i : Nat} (h : i < l.length) : l.getD i 0 = l[i] := by rw [List.getD_eq_getElem?_getD, List.getElem?_eq_getElem h]; rfl
theorem u8eq (x : UInt8) (n : Nat) (h : n < 256) : ((x.toNat : Int) = (n : Int)) ↔ x = UInt8.ofNat n := by
  constructor
  · intro e
    apply UInt8.toNat_inj.1
    rw [UInt8.toNat_ofNat', Nat.mod_eq_of_lt (by omega)]
    omega
  · intro e; subst e; rw [UInt8.toNat_ofNat', Nat.mod_eq_of_lt (by omega)]

theorem tcDir_ok (f : Tf) {a : Option Addr} {c : Nat} {w : World} (hr : Rd w a (f.d.map bv)) : Does Try.prog 11 #[f.val a c] w fun v w' => v = .tuple #[.int .i64 f.dir.1, .int .i64 f.dir.2.1, .bool f.dir.2.2] ∧ Mod [] w w' := by
  apply w11
  unfold F11
  refine New.use fun w1 hB m _ => ?_
  have hr1 := hr.mod m (by simp)
  have md := m.none (Mod.drew (S := []) w1)
  refine ⟨_, _, _, hB.cell (i := 5) rfl, _, hB.cell0, ?_⟩
  have j1 : ∀ b : Bool, b = !(f.bp && f.ct) → F11_j1 f.d.length a b w1 (fun v w' => v = .tuple #[.int .i64 f.dir.1, .int .i64 f.dir.2.1, .bool f.dir.2.2] ∧ Mod [] w w') := by
    rintro b hb
    unfold F11_j1
    cases hbc : f.bp && f.ct with
    | false =>
      rw [hb, hbc, if_pos (by simp)]
      have : f.dir = (0, 0, false) := by unfold Tf.dir; rw [if_neg (by intro h; simp [h.1, h.2] at hbc)]
      rw [this]; exact ⟨rfl, m⟩
    | true =>
      rw [hb, hbc, if_neg (by simp)]
      have hd : f.dir = dirL f.d := by unfold Tf.dir; rw [Bool.and_eq_true] at hbc; rw [if_pos hbc]
      rw [hd]
      generalize f.d = l at *
      have j3 : ∀ b : Bool, l.length ≠ 1 → (b = true ↔ l.length = 3 ∧ l.getD 0 0 = 130 ∧ l.getD 1 0 = 0) → F11_j3 a l.length b w1 (fun v w' => v = .tuple #[.int .i64 (dirL l).1, .int .i64 (dirL l).2.1, .bool (dirL l).2.2] ∧ Mod [] w w') := by
        intro b h1 hb
        have hdir : dirL l = if l.length = 3 ∧ l.getD 0 0 = 130 ∧ l.getD 1 0 = 0 then (1, ((l.getD 2 0).toNat : Int), true) else (0, 0, false) := by unfold dirL; rw [if_neg (fun h' => h1 h'.1)]
        unfold F11_j3
        rw [hdir]
        refine iteI (fun h => ?_) (fun h => ?_)
        · have h3 := hb.1 h
          rw [if_pos h3]
          obtain ⟨p, rfl, c2⟩ := rd_get hr1 (i := 2) (by omega)
          refine ⟨p, rfl, by omega, by omega, _, c2, ?_, md⟩
          rw [getD_eq (by omega), wi64 (by have := l[2].toNat_lt; omega)]
        · rw [if_neg (fun h' => h (hb.2 h'))]
          exact ⟨rfl, m⟩
      have j2 : ∀ b : Bool, (b = true ↔ l.length = 1 ∧ l.getD 0 0 = 0) → F11_j2 l.length a b w1 (fun v w' => v = .tuple #[.int .i64 (dirL l).1, .int .i64 (dirL l).2.1, .bool (dirL l).2.2] ∧ Mod [] w w') := by
        intro b hb
        unfold F11_j2
        refine iteI (fun h => ?_) (fun h => ?_)
        · unfold dirL; rw [if_pos (hb.1 h)]; exact ⟨rfl, m⟩
        · refine iteI (fun h3 => ?_) (fun h3 => ?_)
          · obtain ⟨p, rfl, c0⟩ := rd_get hr1 (i := 0) (by omega)
            obtain ⟨p', hp, c1⟩ := rd_get hr1 (i := 1) (by omega)
            cases hp
            refine ⟨p, rfl, by omega, by omega, _, c0, iteI (fun e0 => ?_) (fun e0 => ?_)⟩
            · refine ⟨by omega, by omega, _, c1, j3 _ (by omega) ?_⟩
              rw [decide_eq_true_eq, getD_eq (by omega), getD_eq (by omega)]
              have := u8eq l[1] 0 (by omega)
              have := u8eq l[0] 130 (by omega)
              constructor
              · intro h; exact ⟨by omega, this.1 e0, (u8eq l[1] 0 (by omega)).1 h⟩
              · intro h; exact (u8eq l[1] 0 (by omega)).2 h.2.2
            · refine j3 _ (by omega) ⟨fun h => by simp at h, fun h => absurd ((u8eq l[0] 130 (by omega)).2 (by rw [← getD_eq (by omega)]; exact h.2.1)) e0⟩
          · by_cases h1 : l.length = 1
            · unfold F11_j3 dirL
              rw [if_neg (by simp), if_neg (fun h' => h (hb.2 h')), if_neg (by omega)]
              exact ⟨rfl, m⟩
            · exact j3 _ h1 ⟨fun h => by simp at h, fun h => by omega⟩
      refine iteI (fun h1 => ?_) (fun h1 => ?_)
      · obtain ⟨p, rfl, c0⟩ := rd_get hr1 (i := 0) (by omega)
        refine ⟨p, rfl, by omega, by omega, _, c0, j2 _ ?_⟩
        rw [decide_eq_true_eq, getD_eq (by omega)]
        constructor
        · intro h; exact ⟨by omega, (u8eq l[0] 0 (by omega)).1 h⟩
        · intro h; exact (u8eq l[0] 0 (by omega)).2 h.2
      · exact j2 _ ⟨fun h => by simp at h, fun h => by omega⟩
  refine iteI (fun h => j1 _ (by simp at h; simp [h])) (fun h => ⟨_, hB.cell (i := 1) rfl, j1 _ (by simp at h; simp [h])⟩)

theorem tcRefDir_ok (f : Tf) {a : Option Addr} {c : Nat} {w : World} (hr : Rd w a (f.d.map bv)) : Does Try.prog 12 #[f.val a c] w fun v w' => v = .tuple #[.int .i64 f.dir.1, .int .i64 f.dir.2.1, .bool f.dir.2.2] ∧ Mod [] w w' := by
  apply w12
  unfold F12
  refine New.use fun w1 hB m _ => ?_
  have hr1 := hr.mod m (by simp)
  have md := m.none (Mod.drew (S := []) w1)
  refine ⟨_, hB.cell0, ?_⟩
  have j1 : ∀ b : Bool, b = !(f.bp && f.ct) → F12_j1 (base w.heap.size) b w1 (fun v w' => v = .tuple #[.int .i64 f.dir.1, .int .i64 f.dir.2.1, .bool f.dir.2.2] ∧ Mod [] w w') := by
    rintro b hb
    unfold F12_j1
    cases hbc : f.bp && f.ct with
    | false =>
      rw [hb, hbc, if_pos (by simp)]
      have : f.dir = (0, 0, false) := by unfold Tf.dir; rw [if_neg (by intro h; simp [h.1, h.2] at hbc)]
      rw [this]; exact ⟨rfl, m⟩
    | true =>
      rw [hb, hbc, if_neg (by simp)]
      have hd : f.dir = dirL f.d := by unfold Tf.dir; rw [Bool.and_eq_true] at hbc; rw [if_pos hbc]
      rw [hd]
      have h5 := hB.cell (i := 5) rfl
      have h5' := hB.drew.cell (i := 5) rfl
      generalize f.d = l at *
      have j3 : ∀ b : Bool, l.length ≠ 1 → (b = true ↔ l.length = 3 ∧ l.getD 0 0 = 130 ∧ l.getD 1 0 = 0) → F12_j3 (base w.heap.size) b w1 (fun v w' => v = .tuple #[.int .i64 (dirL l).1, .int .i64 (dirL l).2.1, .bool (dirL l).2.2] ∧ Mod [] w w') := by
        intro b h1 hb
        have hdir : dirL l = if l.length = 3 ∧ l.getD 0 0 = 130 ∧ l.getD 1 0 = 0 then (1, ((l.getD 2 0).toNat : Int), true) else (0, 0, false) := by unfold dirL; rw [if_neg (fun h' => h1 h'.1)]
        unfold F12_j3
        rw [hdir]
        refine iteI (fun h => ?_) (fun h => ?_)
        · have h3 := hb.1 h
          rw [if_pos h3]
          obtain ⟨p, rfl, c2⟩ := rd_get hr1 (i := 2) (by omega)
          refine ⟨_, _, _, h5', p, rfl, by omega, by omega, _, c2, ?_, md⟩
          rw [getD_eq (by omega), wi64 (by have := l[2].toNat_lt; omega)]
        · rw [if_neg (fun h' => h (hb.2 h'))]
          exact ⟨rfl, m⟩
      have j2 : ∀ b : Bool, (b = true ↔ l.length = 1 ∧ l.getD 0 0 = 0) → F12_j2 (base w.heap.size) b w1 (fun v w' => v = .tuple #[.int .i64 (dirL l).1, .int .i64 (dirL l).2.1, .bool (dirL l).2.2] ∧ Mod [] w w') := by
        intro b hb
        unfold F12_j2
        refine iteI (fun h => ?_) (fun h => ⟨_, _, _, h5, ?_⟩)
        · unfold dirL; rw [if_pos (hb.1 h)]; exact ⟨rfl, m⟩
        · refine iteI (fun h3 => ?_) (fun h3 => ?_)
          · obtain ⟨p, rfl, c0⟩ := rd_get hr1 (i := 0) (by omega)
            obtain ⟨p', hp, c1⟩ := rd_get hr1 (i := 1) (by omega)
            cases hp
            refine ⟨_, _, _, h5, p, rfl, by omega, by omega, _, c0, iteI (fun e0 => ?_) (fun e0 => ?_)⟩
            · refine ⟨_, _, _, h5, p, rfl, by omega, by omega, _, c1, j3 _ (by omega) ?_⟩
              rw [decide_eq_true_eq, getD_eq (by omega), getD_eq (by omega)]
              have := u8eq l[0] 130 (by omega)
              constructor
              · intro h; exact ⟨by omega, this.1 e0, (u8eq l[1] 0 (by omega)).1 h⟩
              · intro h; exact (u8eq l[1] 0 (by omega)).2 h.2.2
            · refine j3 _ (by omega) ⟨fun h => by simp at h, fun h => absurd ((u8eq l[0] 130 (by omega)).2 (by rw [← getD_eq (by omega)]; exact h.2.1)) e0⟩
          · by_cases h1 : l.length = 1
            · unfold F12_j3 dirL
              rw [if_neg (by simp), if_neg (fun h' => h (hb.2 h')), if_neg (by omega)]
              exact ⟨rfl, m⟩
            · exact j3 _ h1 ⟨fun h => by simp at h, fun h => by omega⟩
      refine ⟨_, _, _, h5, ?_⟩
      refine iteI (fun h1 => ?_) (fun h1 => ?_)
      · obtain ⟨p, rfl, c0⟩ := rd_get hr1 (i := 0) (by omega)
        refine ⟨_, _, _, h5, p, rfl, by omega, by omega, _, c0, j2 _ ?_⟩
        rw [decide_eq_true_eq, getD_eq (by omega)]
        constructor
        · intro h; exact ⟨by omega, (u8eq l[0] 0 (by omega)).1 h⟩
        · intro h; exact (u8eq l[0] 0 (by omega)).2 h.2
      · exact j2 _ ⟨fun h => by simp at h, fun h => by omega⟩
  refine iteI (fun h => j1 _ (by simp at h; simp [h])) (fun h => ⟨_, hB.cell (i := 1) rfl, j1 _ (by simp at h; simp [h])⟩)

theorem retF {w : World} {g t : Nat} {vs : List Value} {k : Value → World → Prop} (f : Tf) (x : Option Addr) (c : Nat) (hb : Blk w g t vs) (hl : vs.length = 6) (hk : ∀ w', Mod [g] w w' → k (f.val x c) w') :
    PutAll w (base g) (f.cells x c) (fun w8 => ∃ (r10 r11 : Bool) (r12 r13 r14 : Int) (r_a15 : Option Addr) (r_n16 r_c17 : Nat), Cells w8 (base g) 0 [.bool r10, .bool r11, .int .i64 r12, .int .i64 r13, .int .i64 r14, .slice r_a15 r_n16 r_c17] ∧ k (.agg #[.bool r10, .bool r11, .int .i64 r12, .int .i64 r13, .int .i64 r14, .slice r_a15 r_n16 r_c17]) w8) :=
  PutAll.use hb (by simp [hl]) fun w' hb' m' => ⟨_, _, _, _, _, _, _, _, hb'.cells, hk w' m'⟩

/-- A control frame. -/
def ctl (cr ch : Int) (l : List UInt8) : Tf := ⟨true, true, cr, ch, 0, l⟩
def GivesTf (w : World) (f : Tf) (v : Value) (w' : World) : Prop := ∃ x k, v = f.val x k ∧ Rd w' x (f.d.map bv) ∧ Mod [] w w' ∧ f.d.length ≤ k
theorem tcControl_ok (cr ch : Int) {a : Option Addr} {l : List UInt8} {c : Nat} {w : World} (hr : Rd w a (l.map bv)) (hc : l.length ≤ c) : Does Try.prog 31 #[.int .i64 cr, .int .i64 ch, .slice a l.length c] w (fun v w' => v = (ctl cr ch l).val a c ∧ Mod [] w w') := by
  apply w31
  unfold F31
  exact New.put rfl fun w1 h1 m1 z1 => ⟨_, _, _, _, _, _, _, _, h1.cells, rfl, m1⟩
theorem bytesBlk {w : World} {g : Nat} {l : List UInt8} (h : Blk w g 5 (l.map bv)) : Rd w (some (base g)) (l.map bv) := Rd.blk h
theorem tcUnlock_ok (cr ch : Int) (w : World) : Does Try.prog 18 #[.int .i64 cr, .int .i64 ch] w (GivesTf w (ctl cr ch [0])) := by
  apply w18
  unfold F18
  refine New.use fun w1 h1 m1 z1 => ?_
  refine New.use fun w2 h2 m2 z2 => ?_
  have r2 : Rd w2 (some (base w1.heap.size)) (([0] : List UInt8).map bv) := Rd.blk h2
  refine (tcControl_ok cr ch (l := [0]) (c := 1) r2 (by simp)).mono ?_
  rintro _ w3 ⟨rfl, m3⟩
  refine ⟨_, _, _, _, _, _, _, _, rfl, ?_⟩
  have M3 := (m1.none m2).none m3
  refine retF (ctl cr ch [0]) (some (base w1.heap.size)) 1 ((h1.mod m2 (by simp)).mod m3 (by simp)) rfl fun w4 m4 => ?_
  exact ⟨_, _, rfl, (r2.mod m3 (by simp)).mod m4 (by simp [fp, base]; omega), M3.trans m4 (fun x hx => .inr (by simp at hx; omega)), by simp [ctl]⟩
theorem tcRefUnlock_ok (cr ch : Int) (w : World) : Does Try.prog 20 #[.int .i64 cr, .int .i64 ch] w (GivesTf w (ctl cr ch [0])) := by
  apply w20
  unfold F20
  refine New.use fun w1 h1 m1 z1 => ?_
  refine New.use fun w2 h2 m2 z2 => ?_
  have r2 : Rd w2 (some (base w1.heap.size)) (([0] : List UInt8).map bv) := Rd.blk h2
  refine retF (ctl cr ch [0]) (some (base w1.heap.size)) 1 (h1.mod m2 (by simp)) rfl fun w4 m4 => ?_
  exact ⟨_, _, rfl, r2.mod m4 (by simp [fp, base]; omega), (m1.none m2).trans m4 (fun x hx => .inr (by simp at hx; omega)), by simp [ctl]⟩

def setF (cr ch nx : Int) : Tf := if 0 ≤ nx ∧ nx ≤ 255 then ctl cr ch [130, 0, UInt8.ofNat nx.toNat] else Tf.zero
theorem nx_val {nx : Int} (h : 0 ≤ nx ∧ nx ≤ 255) : [.int .u8 130, .int .u8 0, .int .u8 (IntKind.u8.wrap nx)] = ([130, 0, UInt8.ofNat nx.toNat] : List UInt8).map bv := by
  have : IntKind.u8.wrap nx = ((nx.toNat % 256 : Nat) : Int) := by rw [wu8]; omega
  simp [bv, this]
theorem tcSet_ok (cr ch nx : Int) (w : World) : Does Try.prog 19 #[.int .i64 cr, .int .i64 ch, .int .i64 nx] w (GivesTf w (setF cr ch nx)) := by
  apply w19
  unfold F19
  refine New.use fun w1 h1 m1 z1 => ?_
  have j : ∀ b : Bool, b = !decide (0 ≤ nx ∧ nx ≤ 255) → F19_j1 (base w.heap.size) nx cr ch b w1 (GivesTf w (setF cr ch nx)) := by
    intro b hb
    unfold F19_j1 setF
    refine iteI (fun h => ?_) (fun h => ?_)
    · rw [hb] at h
      rw [if_neg (by simp at h; omega)]
      exact retF Tf.zero none 0 h1 rfl fun w4 m4 => ⟨_, _, rfl, Rd.nil, m1.trans m4 (fun x hx => .inr (by simp at hx; omega)), by simp [Tf.zero]⟩
    · have hn : 0 ≤ nx ∧ nx ≤ 255 := by rw [hb] at h; simpa using h
      rw [if_pos hn]
      refine New.use fun w2 h2 m2 z2 => ?_
      rw [nx_val hn] at h2
      refine (tcControl_ok cr ch (l := [130, 0, UInt8.ofNat nx.toNat]) (c := 3) (Rd.blk h2) (by simp)).mono ?_
      rintro _ w3 ⟨rfl, m3⟩
      refine ⟨_, _, _, _, _, _, _, _, rfl, ?_⟩
      have M3 := (m1.none m2).none m3
      refine retF (ctl cr ch [130, 0, UInt8.ofNat nx.toNat]) (some (base w1.heap.size)) 3 ((h1.mod m2 (by simp)).mod m3 (by simp)) rfl fun w4 m4 => ?_
      exact ⟨_, _, rfl, ((Rd.blk h2).mod m3 (by simp)).mod m4 (by simp [fp, base]; omega), M3.trans m4 (fun x hx => .inr (by simp at hx; omega)), by simp [ctl]⟩
  refine iteI (fun h => j _ ?_) (fun h => j _ ?_)
  · rw [decide_eq_false (by omega)]; rfl
  · by_cases h2 : 255 < nx
    · rw [decide_eq_true h2, decide_eq_false (by omega)]; rfl
    · rw [decide_eq_false h2, decide_eq_true (by omega)]; rfl
theorem tcRefSet_ok (cr ch nx : Int) (w : World) : Does Try.prog 21 #[.int .i64 cr, .int .i64 ch, .int .i64 nx] w (GivesTf w (setF cr ch nx)) := by
  apply w21
  unfold F21
  refine New.use fun w1 h1 m1 z1 => ?_
  have j : ∀ b : Bool, b = !decide (0 ≤ nx ∧ nx ≤ 255) → F21_j1 (base w.heap.size) cr ch nx b w1 (GivesTf w (setF cr ch nx)) := by
    intro b hb
    unfold F21_j1 setF
    refine iteI (fun h => ?_) (fun h => ?_)
    · rw [hb] at h
      rw [if_neg (by simp at h; omega)]
      exact retF Tf.zero none 0 h1 rfl fun w4 m4 => ⟨_, _, rfl, Rd.nil, m1.trans m4 (fun x hx => .inr (by simp at hx; omega)), by simp [Tf.zero]⟩
    · have hn : 0 ≤ nx ∧ nx ≤ 255 := by rw [hb] at h; simpa using h
      rw [if_pos hn]
      refine (tcRefUnlock_ok cr ch w1).mono ?_
      rintro _ w2 ⟨x, k, rfl, r2, m2, hk⟩
      refine ⟨_, _, _, _, _, _, _, _, rfl, ?_⟩
      refine New.put rfl fun w3 h3 m3 z3 => ?_
      refine New.use fun w4 h4 m4 z4 => ?_
      rw [nx_val hn] at h4
      refine Put.use (h3.mod m4 (by simp)) (by simp) fun w5 h5 m5 => ?_
      refine ⟨_, _, _, _, _, _, _, _, h5.cells, ?_⟩
      have z2 := m2.size
      have M5 := (((m1.none m2).none m3).none m4).trans m5 (fun x hx => .inr (by simp at hx; omega))
      have hb5 := (((h1.mod m2 (by simp)).mod m3 (by simp)).mod m4 (by simp)).mod m5 (by simp; omega)
      refine retF (ctl cr ch [130, 0, UInt8.ofNat nx.toNat]) (some (base w3.heap.size)) 3 hb5 rfl fun w6 m6 => ?_
      exact ⟨_, _, rfl, ((Rd.blk h4).mod m5 (by simp [fp, base]; omega)).mod m6 (by simp [fp, base]; omega), M5.trans m6 (fun x hx => .inr (by simp at hx; omega)), by simp [ctl]⟩
  refine iteI (fun h => j _ ?_) (fun h => j _ ?_)
  · rw [decide_eq_false (by omega)]; rfl
  · by_cases h2 : 255 < nx
    · rw [decide_eq_true h2, decide_eq_false (by omega)]; rfl
    · rw [decide_eq_false h2, decide_eq_true (by omega)]; rfl
end Go.Proofs.Ytdbckjadafpenaa
